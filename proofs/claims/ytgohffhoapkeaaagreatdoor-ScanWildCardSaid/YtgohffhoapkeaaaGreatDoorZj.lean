/- A part of the proof of ScanWild. No condition of its own. -/
import Derived.Test.YtgohffhoapkeaaaGreatDoorVz
import Derived.Test.YtgohffhoapkeaaaGreatDoorZi
set_option maxHeartbeats 4000000
set_option maxRecDepth 1000000
set_option linter.unusedVariables false
namespace Go.Proofs.YtgohffhoapkeaaaGreatDoor
section
open Go.RowKit
theorem BL {B1 B2:Nat} (x:CX) (A:Option Addr) (c:Nat) (b:List UInt8) (w:World) (h1:Reads w B1 1 x.ka x.c.key.length (bl x.c.key)) (h2:Reads w B2 1 A b.length (bl b)) (hB1:B1<=w.heap.size) (hB2:B2<=w.heap.size) :
 Calls Tryz.prog 70 #[x.val,.slice A b.length c] w fun e w'=>e=.returned (.int .i64 (Lib.compareBytes x.c.key b))/\Below w.heap.size w w':=by
 unfold CX.val cellV;have hC:=fun W (hW:Below w.heap.size w W)=>dJ x.kc c W (h1.below (hW.mono hB1)) (h2.below (hW.mono hB2))
 obtain ⟨r,HR⟩:∃ r,Hid (Lib.compareBytes x.c.key b=r):=⟨_,lH rfl⟩
 rw [HR.out] at hC ⊢;have HC:=lH hC;clear hC h1 h2;go_enter Tryz.func70,Tryz.ntmps70
 go_wp2_with (go_at_call 27;refine (HC.out _ ?_).mono ?_;exact (bR _ _).alloc (nR _) _;rintro e w2 ⟨rfl,rfl⟩)
 go_ret;exact ⟨rfl,(bR _ _).alloc (nR _) _⟩
theorem yA {B1 B2:Nat} (x:CX) (A:Option Addr) (c:Nat) (b:List UInt8) (w:World) (h1:Reads w B1 1 x.ka x.c.key.length (bl x.c.key)) (h2:Reads w B2 1 A b.length (bl b)) (hB1:B1<=w.heap.size) (hB2:B2<=w.heap.size) :
 Calls Tryz.prog 72 #[x.val,.slice A b.length c] w fun e w'=>e=.returned (.int .i64 (Lib.compareBytes x.c.key b))/\Below w.heap.size w w':=by
 unfold CX.val cellV;have hC:=fun W (hW:Below w.heap.size w W)=>dJ x.kc c W (h1.below (hW.mono hB1)) (h2.below (hW.mono hB2))
 obtain ⟨r,HR⟩:∃ r,Hid (Lib.compareBytes x.c.key b=r):=⟨_,lH rfl⟩
 rw [HR.out] at hC ⊢;have HC:=lH hC;clear hC h1 h2;go_enter Tryz.func72,Tryz.ntmps72
 go_wp2_with (go_at_call 27;refine (HC.out _ ?_).mono ?_;exact (bR _ _).alloc (nR _) _;rintro e w2 ⟨rfl,rfl⟩)
 go_ret;exact ⟨rfl,(bR _ _).alloc (nR _) _⟩
theorem ic (l:List CX) (t:List UInt8):ct (l.map CX.c) t<=l.length:=by
 unfold ct;have:=List.countP_le_length (p:=fun c:PC=>decide (c.key<t)) (l:=l.map CX.c)
 simpa using this
def nS (kind:Int) (l:List PC) (lo:Key):Nat:=if kind=2 then nQ l lo-1 else ct l lo
def iL (kind:Int) (l:List PC) (hi:Key):Int:=if kind=2 then (ju l hi:Int) else (lj l hi:Int)-1
theorem DC {y:NX} {w:World} (h:aP w w.heap.size y) (hr:(y.l.map CX.c).Pairwise fun a b=>a.key<b.key) {tA:Option Addr} (tc:Nat) {t:List UInt8} (ht:Reads w w.heap.size 1 tA t.length (bl t)) :
 Calls Tryz.prog 48 #[y.val,.slice tA t.length tc] w fun e w'=>e=.returned (.int .i64 (nS y.kind (y.l.map CX.c) t:Nat))/\Below w.heap.size w w':=by
 obtain ⟨w1,hw1⟩:∃ w1,w1=w.alloc (.cells y.cells 95):=⟨_,rfl⟩
 have hb1:Below w.heap.size w w1:=by rw [hw1];exact (bR _ w).alloc (nR _) _
 have hS:=wz (f:=70) (fun x A c b w a1 a2 a3 a4=>BL x A c b w a1 a2 a3 a4) (enters_of Tryz.func70 (by kernel_rfl) rfl) y.cc tc w1 (h.cells.below hb1) (ht.below hb1) hb1.size hb1.size h.many hr;have hcl:=ic y.l t;have hm:=h.many;unfold nS nQ
 obtain ⟨q,HQ⟩:∃ q,Hid (ct (y.l.map CX.c) t=q):=⟨_,lH rfl⟩
 obtain ⟨b,HBb⟩:∃ q,Hid (ms (y.l.map CX.c) t=q):=⟨_,lH rfl⟩
 rw [HQ.out] at hcl hS ⊢;rw [HBb.out] at hS ⊢
 have hn1:aa w1 w.heap.size 95 y.cells:=by rw [hw1];exact aa.new _ _ _
 have HW1:=lH hw1;clear h ht hr hw1;unfold NX.cells at HW1 hn1;unfold NX.val aJ
 have e1:IntKind.i64.wrap ((q:Int)-1)=(q:Int)-1:=by rw [IntKind.wrap_i64];omega
 by_cases hk:y.kind=2
 ·have hk1:(y.kind==2)=true:=beq_iff_eq.2 hk;rw [if_pos hk];have HK:=lH hk;clear hk
  cases b with
  | true =>
   have m1:max (q:Int) 0=(q:Int):=by omega
   have m2:(if (q:Int)<0 then (0:Int) else (q:Int))=(q:Int):=if_neg (by omega)
   have hfin:(if true=true then q+1 else q)-1=q:=by simp
   rw [hfin];go_enter Tryz.func48,Tryz.ntmps48
   go_wp2_with (rw [<-HW1.out];go_at_call 69;refine hS.mono ?_;rintro e w2 ⟨rfl,hb2⟩;have c0:w2.cell? ⟨w.heap.size,0,none⟩=some (.int .i64 y.kind):=(hn1.below hb2 hn1.lt).cell 0)
   go_ret;exact ⟨rfl,hb1.trans (hb2.mono hb1.size)⟩
  | false =>
   obtain ⟨m,HM⟩:∃ m:Nat,Hid (q-1=m):=⟨_,lH rfl⟩
   have hmm:=HM.out
   have m1:max ((q:Int)-1) 0=(m:Int):=by omega
   have m2:(if (q:Int)-1<0 then (0:Int) else (q:Int)-1)=(m:Int):=by split <;> omega
   have hfin:(if false=true then q+1 else q)-1=m:=by simp [HM.out]
   rw [hfin];clear hmm;go_enter Tryz.func48,Tryz.ntmps48
   go_wp2_with (rw [<-HW1.out];go_at_call 69;refine hS.mono ?_;rintro e w2 ⟨rfl,hb2⟩;have c0:w2.cell? ⟨w.heap.size,0,none⟩=some (.int .i64 y.kind):=(hn1.below hb2 hn1.lt).cell 0)
   go_ret;exact ⟨rfl,hb1.trans (hb2.mono hb1.size)⟩
 ·have hk1:(y.kind==2)=false:=beq_eq_false_iff_ne.2 hk;rw [if_neg hk]
  have m1:max (q:Int) 0=(q:Int):=by omega
  have m2:(if (q:Int)<0 then (0:Int) else (q:Int))=(q:Int):=if_neg (by omega);go_enter Tryz.func48,Tryz.ntmps48
  go_wp2_with (rw [<-HW1.out];go_at_call 69;refine hS.mono ?_;rintro e w2 ⟨rfl,hb2⟩;have c0:w2.cell? ⟨w.heap.size,0,none⟩=some (.int .i64 y.kind):=(hn1.below hb2 hn1.lt).cell 0)
  go_ret;exact ⟨rfl,hb1.trans (hb2.mono hb1.size)⟩
theorem BM {y:NX} {w:World} (h:aP w w.heap.size y) (hr:(y.l.map CX.c).Pairwise fun a b=>a.key<b.key) (hne:y.kind=2->y.l.length≠0) {tA:Option Addr} (tc:Nat) {t:List UInt8} (ht:Reads w w.heap.size 1 tA t.length (bl t)) (htl:t.length<=3000000) :
 Calls Tryz.prog 50 #[y.val,.slice tA t.length tc] w fun e w'=>e=.returned (.int .i64 (iL y.kind (y.l.map CX.c) t))/\Below w.heap.size w w':=by
 obtain ⟨w1,hw1⟩:∃ w1,w1=w.alloc (.cells y.cells 95):=⟨_,rfl⟩
 have hb1:Below w.heap.size w w1:=by rw [hw1];exact (bR _ w).alloc (nR _) _
 have hS:=wz (f:=72) (fun x A c b w a1 a2 a3 a4=>yA x A c b w a1 a2 a3 a4) (enters_of Tryz.func72 (by kernel_rfl) rfl) y.cc tc w1 (h.cells.below hb1) (ht.below hb1) hb1.size hb1.size h.many hr;have hcl:=ic y.l t;have hm:=h.many;unfold iL ju lj
 obtain ⟨q,HQ⟩:∃ q,Hid (ct (y.l.map CX.c) t=q):=⟨_,lH rfl⟩
 rw [HQ.out] at hcl hS ⊢
 have hn1:aa w1 w.heap.size 95 y.cells:=by rw [hw1];exact aa.new _ _ _
 have HW1:=lH hw1;clear h ht hr hw1;unfold NX.cells at HW1 hn1;unfold NX.val aJ
 have e1:IntKind.i64.wrap ((q:Int)-1)=(q:Int)-1:=by rw [IntKind.wrap_i64];omega
 by_cases h0:t.length=0
 ·obtain rfl:t=[]:=List.length_eq_zero_iff.1 h0
  have e2:IntKind.i64.wrap ((y.l.length:Int)-1)=(y.l.length:Int)-1:=by rw [IntKind.wrap_i64];omega
  have hfin:(if y.kind=2 then ((if ([]:Key)=[] then (y.l.map CX.c).length-1 else q-1:Nat):Int) else ((if ([]:Key)=[] then (y.l.map CX.c).length else q:Nat):Int)-1)=(y.l.length:Int)-1:=by
   rw [if_pos rfl,if_pos rfl,List.length_map]
   split
   ·rename_i h2;have:=hne h2;omega
   ·rfl
  rw [hfin];clear hfin hne;go_enter Tryz.func50,Tryz.ntmps50;go_wp2;go_ret;exact ⟨rfl,(bR _ w).alloc (nR _) _⟩
 ·have hte:t≠[]:=fun e=>h0 (by rw [e];rfl);have d0:((t.length:Int)==0)=false:=beq_eq_false_iff_ne.2 (by omega);have d1:(t.length==0)=false:=beq_eq_false_iff_ne.2 (by omega)
  have d2:¬ ((t.length:Int)=0):=by omega
  rw [if_neg hte,if_neg hte];have HT:=lH (aI hte h0);clear hte h0;by_cases hk:y.kind=2
  ·have hk1:(y.kind==2)=true:=beq_iff_eq.2 hk;rw [if_pos hk];have HK:=lH hk;clear hk hne
   obtain ⟨m,HM⟩:∃ m:Nat,Hid (q-1=m):=⟨_,lH rfl⟩
   have hmm:=HM.out
   have m1:max ((q:Int)-1) 0=(m:Int):=by omega
   have m2:(if (q:Int)-1<0 then (0:Int) else (q:Int)-1)=(m:Int):=by split <;> omega
   rw [hmm];clear hmm;go_enter Tryz.func50,Tryz.ntmps50
   go_wp2_with (rw [<-HW1.out];go_at_call 69;refine hS.mono ?_;rintro e w2 ⟨rfl,hb2⟩;have c0:w2.cell? ⟨w.heap.size,0,none⟩=some (.int .i64 y.kind):=(hn1.below hb2 hn1.lt).cell 0)
   go_ret;exact ⟨rfl,hb1.trans (hb2.mono hb1.size)⟩
  ·have hk1:(y.kind==2)=false:=beq_eq_false_iff_ne.2 hk;rw [if_neg hk];clear hne;go_enter Tryz.func50,Tryz.ntmps50
   go_wp2_with (rw [<-HW1.out];go_at_call 69;refine hS.mono ?_;rintro e w2 ⟨rfl,hb2⟩;have c0:w2.cell? ⟨w.heap.size,0,none⟩=some (.int .i64 y.kind):=(hn1.below hb2 hn1.lt).cell 0)
   go_ret;exact ⟨rfl,hb1.trans (hb2.mono hb1.size)⟩
def Ij (B:Nat) (r:Except Int PN) (e:Ending) (w':World):Prop:=∃ (y:NX) (v:Value),e=.returned (.tuple #[y.val,v])/\(match r with
 | .ok x=>v=.nilIface/\y.n=x/\aP w' w'.heap.size y/\dC B y
 | .error k=>k≠0/\dX B w' k v)
theorem dX.fr {B:Nat} {w w':World} {k:Int} {v:Value} {X:Nat->Prop} (h:dX B w k v) (hf:Fr X w w') (hX:∀ r,B<=r->r<w.heap.size->¬ X r):dX B w' k v :=
 h.keep fun r hr hl=>hf.block r hl (hX r hr hl)
theorem wC {ty p:Nat} {X:Nat->Prop} {w:World} {T M:Nat} {t:PT} (h:TX X w T M t) (hpX:¬ X p) (ok:t.OK) (hg:ay w) (htab:aH w) (hp0:2<p) {A:Option Addr} {cc:Nat} {lv av dv:Value} {c:SW}
 (hB:aa w p ty #[.pointer (some ⟨T,0,none⟩),.slice A c.way.length cc,lv,av,.int .i64 (c.pages:Nat),dv]) (hcp:c.pages<=100000) (hcl:c.way.length<=20) (n:Nat) (hn:n<4294967296) :
 Calls Tryz.prog 47 #[.pointer (some ⟨p,0,none⟩),.int .u32 (n:Nat)] w fun e w'=>Ij w.heap.size (kG t c n) e w'/\aa w' p ty #[.pointer (some ⟨T,0,none⟩),.slice A c.way.length cc,lv,av,.int .i64 (c.pages+1:Nat),dv]/\Fr (fun k=>k=p) w w':=by
 obtain ⟨m,HM⟩:∃ m,Hid (c.pages+1=m):=⟨_,lH rfl⟩
 have hm:=HM.out
 obtain ⟨L,HL⟩:∃ L,Hid (c.way.length=L):=⟨_,lH rfl⟩
 unfold kG;rw [HM.out];rw [HL.out] at hB hcl ⊢
 obtain ⟨g,HG⟩:∃ g,Hid (c.pages=g):=⟨_,lH rfl⟩
 rw [HG.out] at hB hm hcp;have hpl:=hB.lt
 have e1:IntKind.i64.wrap ((g:Int)+1)=(m:Int):=by rw [IntKind.wrap_i64];omega
 have k4:w.cell? ⟨p,4,none⟩=some (.int .i64 (g:Nat)):=hB.cell 4;have f4:w.frozen? ⟨p,4,none⟩=false:=hB.frozen 4;have hB1:aa (w.setCell ⟨p,4,none⟩ (.int .i64 (m:Nat))) p ty #[.pointer (some ⟨T,0,none⟩),.slice A L cc,lv,av,.int .i64 (m:Nat),dv]:=hB.set_ 4 _;have r4:(w.setCell ⟨p,4,none⟩ (.int .i64 (m:Nat))).cell? ⟨p,4,none⟩=some (.int .i64 (m:Nat)):=hB1.cell 4;have r1:(w.setCell ⟨p,4,none⟩ (.int .i64 (m:Nat))).cell? ⟨p,1,none⟩=some (.slice A L cc):=hB1.cell 1;have r0:(w.setCell ⟨p,4,none⟩ (.int .i64 (m:Nat))).cell? ⟨p,0,none⟩=some (.pointer (some ⟨T,0,none⟩)):=hB1.cell 0;have hf1:Fr (fun k=>k=p) w (w.setCell ⟨p,4,none⟩ (.int .i64 (m:Nat))):=aT rfl
 have hs1:(w.setCell ⟨p,4,none⟩ (.int .i64 (m:Nat))).heap.size=w.heap.size:=by simp [World.setCell]
 obtain ⟨w2,hw2⟩:∃ w2,w2=(w.setCell ⟨p,4,none⟩ (.int .i64 (m:Nat))).alloc (.cells #[.int .i64 0,.int .u64 0,.slice none 0 0,.int .u32 0,.slice none 0 0,.int .u32 0,.int .u32 0,.int .u32 0,.int .u64 0] 95):=⟨_,rfl⟩
 have hP2:aa w2 p ty #[.pointer (some ⟨T,0,none⟩),.slice A L cc,lv,av,.int .i64 (m:Nat),dv]:=by rw [hw2];exact hB1.alloc _
 have hN2:aa w2 w.heap.size 95 #[.int .i64 0,.int .u64 0,.slice none 0 0,.int .u32 0,.slice none 0 0,.int .u32 0,.int .u32 0,.int .u32 0,.int .u64 0]:=by rw [hw2,<-hs1];exact aa.new _ _ _
 have hf2:Fr (fun k=>k=p) w w2:=by rw [hw2];exact hf1.alloc _
 have hT2:TX X w2 T M t:=h.keep ⟨hf2.size,fun k hk hl=>hf2.block k hl (fun e=>hpX (by have e:k=p:=e;rw [<-e];exact hk))⟩
 have q4:((w.setCell ⟨p,4,none⟩ (.int .i64 (m:Nat))).alloc (.cells #[.int .i64 0,.int .u64 0,.slice none 0 0,.int .u32 0,.slice none 0 0,.int .u32 0,.int .u32 0,.int .u32 0,.int .u64 0] 95)).cell? ⟨p,4,none⟩=some (.int .i64 (m:Nat)):=by rw [<-hw2];exact hP2.cell 4
 have q1:((w.setCell ⟨p,4,none⟩ (.int .i64 (m:Nat))).alloc (.cells #[.int .i64 0,.int .u64 0,.slice none 0 0,.int .u32 0,.slice none 0 0,.int .u32 0,.int .u32 0,.int .u32 0,.int .u64 0] 95)).cell? ⟨p,1,none⟩=some (.slice A L cc):=by rw [<-hw2];exact hP2.cell 1
 have q0:((w.setCell ⟨p,4,none⟩ (.int .i64 (m:Nat))).alloc (.cells #[.int .i64 0,.int .u64 0,.slice none 0 0,.int .u32 0,.slice none 0 0,.int .u32 0,.int .u32 0,.int .u32 0,.int .u64 0] 95)).cell? ⟨p,0,none⟩=some (.pointer (some ⟨T,0,none⟩)):=by rw [<-hw2];exact hP2.cell 0
 have hg2:ay w2:=gI hg hf2 (fun e=>by have e:0=p:=e;omega);have ht2:aH w2:=htab.of fun hl=>hf2.block _ hl (fun e=>by have e:2=p:=e;omega);have hNo:=vD hT2 ok n hn hg2 ht2;have HW2:=lH hw2;have HI:=lH (aI hP2 (aI hN2 (aI hf2 hT2)));have hsz:w.heap.size<w2.heap.size:=hN2.lt
 have hpne:p≠w.heap.size:=by omega
 clear h hg htab hw2 hB hB1 hf1 hm hP2 hN2 hf2 hT2 hg2 ht2;by_cases h5:512<m\/20<=L
 ·rw [if_pos h5];by_cases h6:512<m
  ·have d1:decide ((512:Int)<(m:Int))=true:=dT (by omega);have d2:decide (512<m)=true:=dT h6;go_enter Tryz.func47,Tryz.ntmps47
   go_wp2_with (rw [<-HW2.out];refine wpList_store_row rfl 95 _ _ rfl w.heap.size _ rfl rfl 95 _ HI.out.2.1 (by kernel_rfl) rfl (by simp [Value.oneCell']) ?_)
   refine bodyPost_ret (rT rfl _ _ w.heap.size 95 _ (0,0) _ rfl (setRow_heap _ _ _ _ _ _ HI.out.2.1) Tryz.underlying95 rfl (by kernel_rfl)) rfl ?_;exact ⟨⟨sa,_,rfl,by decide,.inr (.inl ⟨by decide,rfl⟩)⟩,HI.out.1.fr (fS _ _ _) hpne,HI.out.2.2.1.late (fS _ w.heap.size _) (fun k hk e=>by have e:k=w.heap.size:=e;omega)⟩
  ·have d1:decide ((512:Int)<(m:Int))=false:=dF (by omega);have d2:decide (512<m)=false:=dF h6;have d3:decide ((20:Int)<=(L:Int))=true:=dT (by omega);have d4:decide (20<=L)=true:=dT (by omega);go_enter Tryz.func47,Tryz.ntmps47
   go_wp2_with (rw [<-HW2.out];refine wpList_store_row rfl 95 _ _ rfl w.heap.size _ rfl rfl 95 _ HI.out.2.1 (by kernel_rfl) rfl (by simp [Value.oneCell']) ?_)
   refine bodyPost_ret (rT rfl _ _ w.heap.size 95 _ (0,0) _ rfl (setRow_heap _ _ _ _ _ _ HI.out.2.1) Tryz.underlying95 rfl (by kernel_rfl)) rfl ?_;exact ⟨⟨sa,_,rfl,by decide,.inr (.inl ⟨by decide,rfl⟩)⟩,HI.out.1.fr (fS _ _ _) hpne,HI.out.2.2.1.late (fS _ w.heap.size _) (fun k hk e=>by have e:k=w.heap.size:=e;omega)⟩
 ·rw [if_neg h5];have d1:decide ((512:Int)<(m:Int))=false:=dF (by omega);have d2:decide (512<m)=false:=dF (by omega);have d3:decide ((20:Int)<=(L:Int))=false:=dF (by omega);have d4:decide (20<=L)=false:=dF (by omega);clear h5
  cases hnd:cn t n with
  | error k =>
   have hk:=mU hnd;rw [hnd] at hNo
   have z0:k≠0:=by omega
   clear hnd;simp only;go_enter Tryz.func47,Tryz.ntmps47
   go_wp2_with (first
    | (
     rw [<-HW2.out];go_at_call 68;refine hNo.mono ?_;rintro e w3 ⟨y,v,hy,rfl,hv,hya,hylo,hb3⟩
     have hvv:∃ pe,v=.iface 82 pe:=(by rcases hv with ⟨h9,_⟩ | ⟨_,r,e9,_⟩;exact absurd h9 z0;exact ⟨_,e9⟩)
     obtain ⟨pe,rfl⟩:=hvv
     obtain ⟨w4,hw4⟩:∃ w4,w4=w3.alloc (.cells y.cells 95):=⟨_,rfl⟩
     have hb4:Below w3.heap.size w3 w4:=(by rw [hw4];exact (bR _ _).alloc (nR _) _)
     have hX4:aa w4 w3.heap.size 95 y.cells:=(by rw [hw4];exact aa.new _ _ _)
     have hN4:=(HI.out.2.1.below hb3 HI.out.2.1.lt).below hb4 (lT HI.out.2.1.lt hb3.size);have hP4:=(HI.out.1.below hb3 HI.out.1.lt).below hb4 (lT HI.out.1.lt hb3.size);unfold NX.cells at hw4 hX4;unfold NX.val aJ;have HW4:=lH hw4;have HY:=lH (aI hy (aI hv (aI hya hylo)))
     clear hw4 hv hya hylo hy)
    | (rw [<-HW4.out];refine wpList_load_row rfl 95 _ rfl w3.heap.size rfl _ _ _ _ hX4 Tryz.underlying95 rfl (by kernel_rfl) ?_)
    | (refine wpList_store_row rfl 95 _ _ rfl w.heap.size _ rfl rfl 95 _ hN4 (by kernel_rfl) rfl (by simp [Value.oneCell']) ?_))
   refine bodyPost_ret (rT rfl _ _ w.heap.size 95 _ (0,0) _ rfl (setRow_heap _ _ _ _ _ _ hN4) Tryz.underlying95 rfl (by kernel_rfl)) rfl ?_;have hb34:=hb3.trans (hb4.mono hb3.size);have hF4:∀ cs,Fr (fun k=>k=p) w (w4.setRow w.heap.size cs):=fun cs=>(HI.out.2.2.1.trans (Fr.of_below hb34)).late (fS _ w.heap.size _) (fun k hk e=>by have e:k=w.heap.size:=e;omega);refine ⟨⟨y,_,rfl,z0,?_⟩,hP4.fr (fS _ _ _) hpne,hF4 _⟩;exact ((HY.out.2.1.e.keep (fun r _ hl=>hb4.block r hl)).fr (fS _ w.heap.size _) (fun r hr hl e=>by have e:r=w.heap.size:=e;omega)).lo (Nat.le_of_lt hsz)
  | ok x =>
   rw [hnd] at hNo;unfold nz tF at hNo;clear hnd;simp only at hNo ⊢
   have hXf:∀ {w3 w4:World} {y:NX},w2.heap.size<=w3.heap.size->aP w3 w3.heap.size y->dC w2.heap.size y->Below w3.heap.size w3 w4->∀ cs,aP (w4.setRow w.heap.size cs) (w4.setRow w.heap.size cs).heap.size y:=by
    intro w3 w4 y h1 h2 h3 h4 cs;rw [size_setRow];exact ((h2.below h4).mono h4.size).fr (fS _ _ _) (nR _) h3 (fun k hk=>by have hk:k=w.heap.size:=hk;omega)
   have HXF:Hid (∀ (w3 w4:World) (y:NX),w2.heap.size<=w3.heap.size->aP w3 w3.heap.size y->dC w2.heap.size y->Below w3.heap.size w3 w4->∀ cs,aP (w4.setRow w.heap.size cs) (w4.setRow w.heap.size cs).heap.size y):=lH fun w3 w4 y=>hXf;clear hXf;by_cases h3:x.kind=3
   ·rw [if_pos (.inl h3)];go_enter Tryz.func47,Tryz.ntmps47
    go_wp2_with (first
     | (
      rw [<-HW2.out];go_at_call 68;refine hNo.mono ?_;rintro e w3 ⟨y,v,hy,rfl,hv,hya,hylo,hb3⟩
      obtain rfl:v=.nilIface:=(by rcases hv with ⟨_,h9⟩ | ⟨h9,_⟩;exact h9;exact absurd rfl h9)
      have hyk:y.kind=3:=(by rw [<-h3,<-hy];rfl)
      obtain ⟨w4,hw4⟩:∃ w4,w4=w3.alloc (.cells y.cells 95):=⟨_,rfl⟩
      have hb4:Below w3.heap.size w3 w4:=(by rw [hw4];exact (bR _ _).alloc (nR _) _)
      have hX4:aa w4 w3.heap.size 95 y.cells:=(by rw [hw4];exact aa.new _ _ _)
      have hN4:=(HI.out.2.1.below hb3 HI.out.2.1.lt).below hb4 (lT HI.out.2.1.lt hb3.size);have hP4:=(HI.out.1.below hb3 HI.out.1.lt).below hb4 (lT HI.out.1.lt hb3.size);unfold NX.cells at hw4 hX4;unfold NX.val aJ;rw [hyk] at hw4 hX4 ⊢;have HYK:=lH hyk;clear hyk;have HW4:=lH hw4;have HY:=lH (aI hy (aI hv (aI hya hylo)))
      clear hw4 hv hya hylo hy)
     | (rw [<-HW4.out];refine wpList_load_row rfl 95 _ rfl w3.heap.size rfl _ _ _ _ hX4 Tryz.underlying95 rfl (by kernel_rfl) ?_)
     | (refine wpList_store_row rfl 95 _ _ rfl w.heap.size _ rfl rfl 95 _ hN4 (by kernel_rfl) rfl (by simp [Value.oneCell']) ?_))
    refine bodyPost_ret (rT rfl _ _ w.heap.size 95 _ (0,0) _ rfl (setRow_heap _ _ _ _ _ _ hN4) Tryz.underlying95 rfl (by kernel_rfl)) rfl ?_;have hb34:=hb3.trans (hb4.mono hb3.size);have hF4:∀ cs,Fr (fun k=>k=p) w (w4.setRow w.heap.size cs):=fun cs=>(HI.out.2.2.1.trans (Fr.of_below hb34)).late (fS _ w.heap.size _) (fun k hk e=>by have e:k=w.heap.size:=e;omega);exact ⟨⟨y,_,by unfold NX.val aJ;rw [HYK.out];rfl,rfl,HY.out.1,HXF.out _ _ _ hb3.size HY.out.2.2.1 HY.out.2.2.2 hb4 _,HY.out.2.2.2.mono (Nat.le_of_lt hsz)⟩,hP4.fr (fS _ _ _) hpne,hF4 _⟩
   ·by_cases h2:x.kind=2
    ·rw [if_pos (.inr h2)];go_enter Tryz.func47,Tryz.ntmps47
     go_wp2_with (first
      | (
       rw [<-HW2.out];go_at_call 68;refine hNo.mono ?_;rintro e w3 ⟨y,v,hy,rfl,hv,hya,hylo,hb3⟩
       obtain rfl:v=.nilIface:=(by rcases hv with ⟨_,h9⟩ | ⟨h9,_⟩;exact h9;exact absurd rfl h9)
       have hyk:y.kind=2:=(by rw [<-h2,<-hy];rfl)
       obtain ⟨w4,hw4⟩:∃ w4,w4=w3.alloc (.cells y.cells 95):=⟨_,rfl⟩
       have hb4:Below w3.heap.size w3 w4:=(by rw [hw4];exact (bR _ _).alloc (nR _) _)
       have hX4:aa w4 w3.heap.size 95 y.cells:=(by rw [hw4];exact aa.new _ _ _)
       have hN4:=(HI.out.2.1.below hb3 HI.out.2.1.lt).below hb4 (lT HI.out.2.1.lt hb3.size);have hP4:=(HI.out.1.below hb3 HI.out.1.lt).below hb4 (lT HI.out.1.lt hb3.size);unfold NX.cells at hw4 hX4;unfold NX.val aJ;rw [hyk] at hw4 hX4 ⊢;have HYK:=lH hyk;clear hyk;have HW4:=lH hw4;have HY:=lH (aI hy (aI hv (aI hya hylo)))
       clear hw4 hv hya hylo hy)
      | (rw [<-HW4.out];refine wpList_load_row rfl 95 _ rfl w3.heap.size rfl _ _ _ _ hX4 Tryz.underlying95 rfl (by kernel_rfl) ?_)
      | (refine wpList_store_row rfl 95 _ _ rfl w.heap.size _ rfl rfl 95 _ hN4 (by kernel_rfl) rfl (by simp [Value.oneCell']) ?_))
     refine bodyPost_ret (rT rfl _ _ w.heap.size 95 _ (0,0) _ rfl (setRow_heap _ _ _ _ _ _ hN4) Tryz.underlying95 rfl (by kernel_rfl)) rfl ?_;have hb34:=hb3.trans (hb4.mono hb3.size);have hF4:∀ cs,Fr (fun k=>k=p) w (w4.setRow w.heap.size cs):=fun cs=>(HI.out.2.2.1.trans (Fr.of_below hb34)).late (fS _ w.heap.size _) (fun k hk e=>by have e:k=w.heap.size:=e;omega);exact ⟨⟨y,_,by unfold NX.val aJ;rw [HYK.out];rfl,rfl,HY.out.1,HXF.out _ _ _ hb3.size HY.out.2.2.1 HY.out.2.2.2 hb4 _,HY.out.2.2.2.mono (Nat.le_of_lt hsz)⟩,hP4.fr (fS _ _ _) hpne,hF4 _⟩
    ·rw [if_neg (by omega)];go_enter Tryz.func47,Tryz.ntmps47
     go_wp2_with (first
      | (
       rw [<-HW2.out];go_at_call 68;refine hNo.mono ?_;rintro e w3 ⟨y,v,hy,rfl,hv,hya,hylo,hb3⟩
       obtain rfl:v=.nilIface:=(by rcases hv with ⟨_,h9⟩ | ⟨h9,_⟩;exact h9;exact absurd rfl h9)
       have hyk:y.kind=x.kind:=(by rw [<-hy];rfl)
       have ik2:(y.kind==2)=false:=beq_eq_false_iff_ne.2 (by omega);have ik3:(y.kind==3)=false:=beq_eq_false_iff_ne.2 (by omega)
       have n3:¬ (y.kind=3):=(by omega)
       have m3:(y.kind != 3)=true:=bne_iff_ne.2 (by omega);have m2:(y.kind != 2)=true:=bne_iff_ne.2 (by omega)
       have n2:¬ (y.kind=2):=(by omega)
       clear hyk
       obtain ⟨w4,hw4⟩:∃ w4,w4=w3.alloc (.cells y.cells 95):=⟨_,rfl⟩
       have hb4:Below w3.heap.size w3 w4:=(by rw [hw4];exact (bR _ _).alloc (nR _) _)
       have hX4:aa w4 w3.heap.size 95 y.cells:=(by rw [hw4];exact aa.new _ _ _)
       have hN4:=(HI.out.2.1.below hb3 HI.out.2.1.lt).below hb4 (lT HI.out.2.1.lt hb3.size);have hP4:=(HI.out.1.below hb3 HI.out.1.lt).below hb4 (lT HI.out.1.lt hb3.size);unfold NX.cells at hw4 hX4;unfold NX.val aJ;have HW4:=lH hw4;have HY:=lH (aI hy (aI hv (aI hya hylo)))
       clear hw4 hv hya hylo hy)
      | (rw [<-HW4.out];refine wpList_load_row rfl 95 _ rfl w3.heap.size rfl _ _ _ _ hX4 Tryz.underlying95 rfl (by kernel_rfl) ?_)
      | (refine wpList_store_row rfl 95 _ _ rfl w.heap.size _ rfl rfl 95 _ hN4 (by kernel_rfl) rfl (by simp [Value.oneCell']) ?_))
     refine bodyPost_ret (rT rfl _ _ w.heap.size 95 _ (0,0) _ rfl (setRow_heap _ _ _ _ _ _ hN4) Tryz.underlying95 rfl (by kernel_rfl)) rfl ?_;have hb34:=hb3.trans (hb4.mono hb3.size);have hF4:∀ cs,Fr (fun k=>k=p) w (w4.setRow w.heap.size cs):=fun cs=>(HI.out.2.2.1.trans (Fr.of_below hb34)).late (fS _ w.heap.size _) (fun k hk e=>by have e:k=w.heap.size:=e;omega);exact ⟨⟨y,_,rfl,by decide,.inr (.inl ⟨by decide,rfl⟩)⟩,hP4.fr (fS _ _ _) hpne,hF4 _⟩
theorem CR.frp {Z:Nat->Prop} {B p:Nat} {w w':World} {A:Option Addr} {c:Nat} {l:List LX} (h:CR Z B p w A c l) (hf:Fr (fun k=>k=p) w w'):CR Z B p w' A c l :=
 ⟨fB h.row (fun ad e=>hf.block ad.block (h.lo_row ad e).2 (fun e2=>h.sep ad e e2)),fun s hs=>(h.lv s hs).fr hf (fun k e=>.inr (.inl e)),h.sep⟩
def RW (p:Nat) (A:Option Addr) (k:Nat):Prop:=k=p\/∃ ad,A=some ad/\ad.block=k
def AR (H:Nat) (A A':Option Addr):Prop:=∀ a',A'=some a'->(∃ a,A=some a/\a.block=a'.block)\/H<=a'.block
theorem AR.refl (H:Nat) (A:Option Addr):AR H A A:=fun a e=>.inl ⟨a,e,rfl⟩
theorem AR.trans {H H':Nat} {A A1 A2:Option Addr} (h:AR H A A1) (k:AR H' A1 A2) (hH:H<=H'):AR H A A2:=fun a2 e=>by
 rcases k a2 e with ⟨a1,e1,e2⟩ | h2
 ·rcases h a1 e1 with ⟨a,e3,e4⟩ | h4
  ·exact .inl ⟨a,e3,e4.trans e2⟩
  ·exact .inr (by omega)
 ·exact .inr (by omega)
theorem RW.trans {p:Nat} {A A':Option Addr} {H:Nat} (h:AR H A A'):∀ k,k<H->RW p A' k->RW p A k:=by
 rintro k hk (h1 | ⟨ad,e,h1⟩)
 ·exact .inl h1
 ·rcases h ad e with ⟨a,e3,e4⟩ | h4
  ·exact .inr ⟨a,e3,e4.trans h1⟩
  ·omega
theorem Fr.rw {p:Nat} {A A':Option Addr} {w w1 w2:World} (h:Fr (RW p A) w w1) (ha:AR w.heap.size A A') (k:Fr (RW p A') w1 w2):Fr (RW p A) w w2:=h.late k (fun j hj hy=>RW.trans ha j hj hy)
def NK (p:Nat) (A:Option Addr) (key:List UInt8) (tA:Option Addr):Prop:=key.length≠0->∀ ad,tA=some ad->¬ RW p A ad.block
theorem my {w:World} {A:Option Addr} {key:List UInt8} (h:Reads w w.heap.size 1 A key.length (bl key)):key.length≠0->∀ ad,A=some ad->ad.block<w.heap.size:=fun h0 ad e=>by
 obtain ⟨a,e1,h1,_⟩:=h.2 (Nat.pos_of_ne_zero h0);rw [e1] at e
 cases e
 exact h1
def qM (ty:Nat) (x:LX):Prop:=(ty=75->0<=x.next)/\(ty=81->x.next<x.l.length)
structure CW (Z:Nat->Prop) (ty B p T:Nat) (w:World) (A:Option Addr) (cc:Nat) (kA:Option Addr) (kc:Nat) (l:List LX) (s:SW):Prop where
 blk:aa w p ty #[.pointer (some ⟨T,0,none⟩),.slice A l.length cc,.slice kA s.last.length kc,.bool s.any,.int .i64 (s.pages:Nat),.bool s.done]
 lo:B<=p
 rows:CR Z B p w A cc l
 key:Reads w w.heap.size 1 kA s.last.length (bl s.last)
 keyN:s.last.length≠0->∀ ad,kA=some ad->¬ WZ Z B p A ad.block
 way:l.map LX.sl=s.way
 few:l.length<=20
 pg:s.pages<=512
 dir:∀ x∈l,qM ty x
 zlt:∀ k,Z k->k<w.heap.size
theorem CW.len {Z:Nat->Prop} {ty B p T:Nat} {w:World} {A:Option Addr} {cc:Nat} {kA:Option Addr} {kc:Nat} {l:List LX} {s:SW} (h:CW Z ty B p T w A cc kA kc l s):s.way.length=l.length:=by rw [<-h.way,List.length_map]
theorem CW.below {Z:Nat->Prop} {ty B p T:Nat} {w w':World} {A:Option Addr} {cc:Nat} {kA:Option Addr} {kc:Nat} {l:List LX} {s:SW} (h:CW Z ty B p T w A cc kA kc l s) (hb:Below w.heap.size w w'):CW Z ty B p T w' A cc kA kc l s :=
 ⟨(hb.block p h.blk.lt).trans h.blk,h.lo,h.rows.below hb,rM (h.key.below hb) hb.size,h.keyN,h.way,h.few,h.pg,h.dir,fun k hk=>lT (h.zlt k hk) hb.size⟩
theorem WZ.of_rw {Z:Nat->Prop} {B p k:Nat} {A:Option Addr} (h:RW p A k):WZ Z B p A k:=.inr (h.imp id id)
theorem CW.put {Z:Nat->Prop} {ty B p T:Nat} {w w':World} {A:Option Addr} {cc:Nat} {kA:Option Addr} {kc:Nat} {l:List LX} {s s':SW} (h:CW Z ty B p T w A cc kA kc l s) (hf:Fr (fun k=>k=p) w w')
 (hB:aa w' p ty #[.pointer (some ⟨T,0,none⟩),.slice A l.length cc,.slice kA s.last.length kc,.bool s'.any,.int .i64 (s'.pages:Nat),.bool s'.done]) (h1:s'.way=s.way) (h2:s'.last=s.last) (h3:s'.pages<=512):CW Z ty B p T w' A cc kA kc l s' :=
 ⟨by rw [h2];exact hB,h.lo,h.rows.frp hf,by rw [h2];exact ax h.key hf (fun h0 ad e hh=>h.keyN h0 ad e (.inr (.inl hh))),by rw [h2];exact h.keyN,by rw [h1];exact h.way,h.few,h3,h.dir,fun k hk=>lT (h.zlt k hk) hf.size⟩
theorem CW.push {Z:Nat->Prop} {ty B p T:Nat} {w5 w6 w7:World} {A A7:Option Addr} {cc c7:Nat} {kA:Option Addr} {kc:Nat} {l:List LX} {s:SW} {x:LX} (h:CW Z ty B p T w5 A cc kA kc l s) (hb:Below w5.heap.size w5 w6) (hg:w6.grownBy w7 (.slice A l.length cc:Value).ownBlock)
 (ho:w7.ownsRow B 115 3 (.slice A7 (l++[x]).length c7) (l++[x]).length (fu (l++[x]))) (hob:(.slice A7 (l++[x]).length c7:Value).ownBlock=(.slice A l.length cc:Value).ownBlock\/(.slice A7 (l++[x]).length c7:Value).ownBlock=some w6.heap.size)
 (hx:LO (WZ Z B p A) w5 x) (hd:qM ty x) (hl:l.length<20):CW Z ty B p T (w7.setCell ⟨p,1,none⟩ (.slice A7 (l++[x]).length c7)) A7 c7 kA kc (l++[x]) {s with way:=s.way++[x.sl]}/\AR w6.heap.size A A7/\Fr (RW p A) w6 (w7.setCell ⟨p,1,none⟩ (.slice A7 (l++[x]).length c7)):=by
 obtain ⟨hr,ha⟩:=h.rows.push h.blk.lt hb hg ho hob hx
 have hf7:Fr (RW p A) w6 w7:=⟨hg.os,hg.tape,hg.output,hg.size,fun k hk hX=>aW hg hk (fun ad e hh=>hX (.inr ⟨ad,e,hh⟩))⟩
 have hf8:Fr (RW p A) w6 (w7.setCell ⟨p,1,none⟩ (.slice A7 (l++[x]).length c7)):=hf7.trans (aT (.inl rfl))
 have hAR:AR w6.heap.size A A7:=fun a' e=>by
  rcases ha with ⟨ad,ad7,e1,e2,e3⟩ | ⟨ad7,e2,e3⟩
  ·rw [e2] at e;cases e;exact .inl ⟨ad,e1,e3⟩
  ·rw [e2] at e;cases e;exact .inr (by omega)
 have hp6:p<w6.heap.size:=lT h.blk.lt hb.size;have hB7:aa w7 p ty #[.pointer (some ⟨T,0,none⟩),.slice A l.length cc,.slice kA s.last.length kc,.bool s.any,.int .i64 (s.pages:Nat),.bool s.done]:=(aW hg hp6 (fun ad e=>h.rows.sep ad e)).trans ((hb.block p h.blk.lt).trans h.blk);have hk6:=rM (h.key.below hb) hb.size
 refine ⟨⟨hB7.set_ 1 _,h.lo,hr,ax hk6 hf8 (fun h0 ad e hh=>h.keyN h0 ad e (WZ.of_rw hh)),fun h0 ad e hh=>?_,?_,by rw [lQ,List.length_singleton];omega,h.pg,fun u hu=>by
  rcases List.mem_append.1 hu with hu | hu
  ·exact h.dir u hu
  ·rw [List.mem_singleton.1 hu];exact hd,fun k hk=>lT (h.zlt k hk) (nT hb.size hf8.size)⟩,hAR,hf8⟩
 ·have hlt:=my hk6 h0 ad e
  rcases hh with hh | hh
  ·exact h.keyN h0 ad e (.inl hh)
  ·exact h.keyN h0 ad e (WZ.of_rw (RW.trans hAR _ hlt (hh.imp id id)))
 ·rw [List.map_append,h.way];rfl
theorem CW.pop {Z:Nat->Prop} {ty B p T:Nat} {w:World} {A:Option Addr} {cc:Nat} {kA:Option Addr} {kc:Nat} {l:List LX} {s:SW} {x:LX} (h:CW Z ty B p T w A cc kA kc (l++[x]) s):CW Z ty B p T (w.setCell ⟨p,1,none⟩ (.slice A l.length cc)) A cc kA kc l s.pop :=
 ⟨h.blk.set_ 1 _,h.lo,h.rows.pop.setp 1 _,ax h.key (aT (X:=fun k=>k=p) rfl) (fun h0 ad e hh=>h.keyN h0 ad e (.inr (.inl hh))),h.keyN,by show _=s.way.dropLast;rw [<-h.way];simp,by have:=h.few;rw [lQ] at this;omega,h.pg,fun u hu=>h.dir u (List.mem_append_left _ hu),fun k hk=>by have:=h.zlt k hk;simpa [World.setCell] using this⟩
theorem CW.bump {Z:Nat->Prop} {ty B p T g:Nat} {w:World} {A:Option Addr} {cc:Nat} {kA:Option Addr} {kc:Nat} {l:List LX} {s:SW} {x:LX} (h:CW Z ty B p T w A cc kA kc (l++[x]) s) (hA:A=some ⟨g,0,none⟩) (n:Int) (h1:-1<=n) (h2:n<=x.l.length) (hd:qM ty {x with next:=n}) :
 CW Z ty B p T (w.setCell ⟨g,l.length*3+2,none⟩ (.int .i64 n)) A cc kA kc (l++[{x with next:=n}]) (s.step {x.sl with next:=n}) :=
 ⟨by
  have:=h.blk.far (p:=⟨g,l.length*3+2,none⟩) (fun e=>h.rows.sep _ hA e.symm) (.int .i64 n);rw [lQ,List.length_singleton] at this ⊢
  exact this,h.lo,h.rows.bump hA n h1 h2,ax h.key (aT (X:=WZ Z B p A) (.inr (.inr ⟨_,hA,rfl⟩))) (fun h0 ad e hh=>h.keyN h0 ad e hh),h.keyN,by show _=s.way.dropLast++[_];rw [<-h.way];simp [LX.sl],by have:=h.few;rw [lQ,List.length_singleton] at this ⊢;exact this,h.pg,fun u hu=>by
  rcases List.mem_append.1 hu with hu | hu
  ·exact h.dir u (List.mem_append_left _ hu)
  ·rw [List.mem_singleton.1 hu];exact hd,fun k hk=>by have:=h.zlt k hk;simpa [World.setCell] using this⟩
theorem IL:Ce Tryz.prog 71 115 3 40:=Ce.of Tryz.underlying71 (z:=.agg #[.bool false,.slice none 0 0,.int .i64 0]) (by kernel_rfl) rfl (by omega) (by omega)
def DD (Z:Nat->Prop) (ty B p T:Nat) (w:World) (A kA:Option Addr) (kc:Nat) (r:Except Int SW) (e:Ending) (w':World):Prop:=(match r with
 | .error k=>∃ v cs,e=.returned v/\k≠0/\dX w.heap.size w' k v/\aa w' p ty cs/\cs.size=6
 | .ok s'=>e=.returned .nilIface/\∃ A' cc' l',CW Z ty B p T w' A' cc' kA kc l' s'/\AR w.heap.size A A')/\Fr (RW p A) w w'
structure aR (Z:Nat->Prop) (ty B p T M:Nat) (X:Nat->Prop) (w:World) (t:PT) (A:Option Addr) (cc:Nat) (kA:Option Addr) (kc:Nat) (l:List LX) (s:SW):Prop where
 tx:TX X w T M t
 xl:∀ k,X k->k<B
 ok:t.OK
 g:ay w
 pow:aH w
 pw:2<B
 cur:CW Z ty B p T w A cc kA kc l s
theorem RW.lo {Z:Nat->Prop} {ty B p T:Nat} {w:World} {A:Option Addr} {cc:Nat} {kA:Option Addr} {kc:Nat} {l:List LX} {s:SW} (h:CW Z ty B p T w A cc kA kc l s):∀ k,RW p A k->B<=k:=by
 rintro k (h1 | ⟨ad,e,h1⟩)
 ·have:=h.lo;omega
 ·have:=(h.rows.lo_row ad e).1;omega
theorem aR.next {Z:Nat->Prop} {ty B p T M:Nat} {X:Nat->Prop} {w w':World} {t:PT} {A A':Option Addr} {cc cc':Nat} {kA kA':Option Addr} {kc kc':Nat} {l l':List LX} {s s':SW} (h:aR Z ty B p T M X w t A cc kA kc l s) (hf:Fr (RW p A) w w') (hc:CW Z ty B p T w' A' cc' kA' kc' l' s'):aR Z ty B p T M X w' t A' cc' kA' kc' l' s':=by
 have hlo:=RW.lo h.cur;have hp:=h.pw;exact ⟨h.tx.keep ⟨hf.size,fun k hk hl=>hf.block k hl (fun e=>by have:=hlo k e;have:=h.xl k hk;omega)⟩,h.xl,h.ok,gI h.g hf (fun e=>by have:=hlo 0 e;omega),h.pow.of fun hl=>hf.block _ hl (fun e=>by have:=hlo _ e;omega),h.pw,hc⟩
theorem qN {t:PT} {s:SW} {n:Nat} {x:PN} (h:kG t s n=.ok x):s.pages+1<=512/\s.way.length<20/\cn t n=.ok x/\(x.kind=3\/x.kind=2):=by
 unfold kG at h
 split at h
 ·cases h
 ·rename_i h1
  split at h
  ·cases h
  ·rename_i y hy
   split at h
   ·rename_i h2
    cases h
    exact ⟨by omega,by omega,hy,h2⟩
   ·cases h
theorem DF {l:List CX} {k:Nat} {z:CX} (h:l[k]?=some z):sE (l.map CX.c) k=z.c.kid:=by
 unfold sE;rw [List.getElem?_map,h];rfl
theorem DG (kind:Int) (l:List CX) (t:Key):nS kind (l.map CX.c) t<=l.length:=by
 unfold nS;have h1:=ic l t;have h2:=qL (l.map CX.c) t;rw [List.length_map] at h2
 split <;> omega
theorem DI {l:List CX} (t:Key) (h:l.length≠0):nS 2 (l.map CX.c) t<l.length:=by
 unfold nS;have h2:=qL (l.map CX.c) t;rw [List.length_map] at h2;rw [if_pos rfl];omega
theorem sG (kind:Int) (l:List CX) (t:Key) (h:kind=2->l.length≠0):-1<=iL kind (l.map CX.c) t/\iL kind (l.map CX.c) t<=l.length/\(kind=2->0<=iL kind (l.map CX.c) t/\iL kind (l.map CX.c) t<l.length):=by
 unfold iL ju lj;have h1:=ic l t;by_cases hk:kind=2
 ·rw [if_pos hk];have:=h hk
  split <;> (try rw [List.length_map]) <;> omega
 ·rw [if_neg hk]
  split <;> (try rw [List.length_map]) <;> omega
theorem Fr.rwp {p:Nat} {A:Option Addr} {w w':World} (h:Fr (fun k=>k=p) w w'):Fr (RW p A) w w':=h.mono fun k _ e=>.inl e
theorem qO {Z:Nat->Prop} {B p T M:Nat} {X:Nat->Prop} {w:World} {t:PT} {A:Option Addr} {cc:Nat} {kA:Option Addr} {kc:Nat} {l:List LX} {s:SW} (h:aR Z 75 B p T M X w t A cc kA kc l s) (n:Nat) (hn:n<4294967296) {tA:Option Addr} (tc:Nat) {key:List UInt8} (hkey:Reads w w.heap.size 1 tA key.length (bl key)) (hNK:NK p A key tA) (hkl:key.length<=3000000) :
 Calls Tryz.prog 28 #[.pointer (some ⟨p,0,none⟩),.int .u32 (n:Nat),.slice tA key.length tc] w fun e w'=>DD Z 75 B p T w A kA kc (bk t 21 s n key) e w':=by
 have HX:=lH (aI h (aI hkey hNK));clear h hkey hNK;go_enter Tryz.func28,Tryz.ntmps28;go_wp2
 go_loopw [1] (fun q wr=>∃ (l1:List LX) (A1:Option Addr) (c1 n1 f:Nat) (s1:SW),q=.int .u32 (n1:Nat)/\n1<4294967296/\aR Z 75 B p T M X wr t A1 c1 kA kc l1 s1/\bk t 21 s n key=bk t f s1 n1 key/\21<=f+l1.length/\AR w.heap.size A A1/\Fr (RW p A) w wr) (fun _ wr=>match wr.cell? ⟨p,1,none⟩ with
  | some (.slice _ n _)=>21-n
  | _=>0)
 case atStart=>exact ⟨l,A,cc,n,21,s,rfl,hn,HX.out.1,rfl,by omega,AR.refl _ _,Fr.refl _ _⟩
 case round =>
  obtain ⟨l1,A1,c1,n1,f,s1,rfl,hn1,hE,hD,hfl,hAR,hF⟩:=hrel
  obtain ⟨wo,rfl⟩:∃ wo,wo=wr:=⟨wr,rfl⟩
  have hmy:wo.cell? ⟨p,1,none⟩=some (.slice A1 l1.length c1):=hE.cur.blk.cell 1;have hfew:=hE.cur.few
  obtain ⟨f,rfl⟩:∃ f',f=f'+1:=⟨f-1,by omega⟩
  have hpB:=hE.cur.lo;have hP:=wC (ty:=75) (p:=p) (c:=s1) (A:=A1) (cc:=c1) (lv:=.slice kA s1.last.length kc) (av:=.bool s1.any) (dv:=.bool s1.done) hE.tx (fun hx=>by have:=hE.xl _ hx;omega) hE.ok hE.g hE.pow (lT hE.pw hpB) (by rw [hE.cur.len];exact hE.cur.blk) (by have:=hE.cur.pg;omega) (by rw [hE.cur.len];exact hfew) n1 hn1;have HI:=lH (aI hE (aI hD (aI hAR hF)))
  cases hpw:kG t s1 n1 with
  | error k =>
   rw [hpw] at hP;clear hE hD hAR hF
   go_wp2_with (first
    | (
     go_at_call 47;refine hP.mono ?_;rintro e w3 ⟨⟨y,v,rfl,hk0,hv⟩,hB3,hF3⟩
     have hvv:∃ tv pe,v=.iface tv pe:=(by rcases hv with ⟨h9,_⟩ | ⟨_,e9⟩ | ⟨_,r,op,nm,e9,_⟩;exact absurd h9 hk0;exact ⟨_,_,e9⟩;exact ⟨_,_,e9⟩)
     obtain ⟨tv,pe,rfl⟩:=hvv
     unfold NX.val aJ))
   go_ret;obtain ⟨hE,hD,hAR,hF⟩:=HI.out;have hF4:=(Fr.rwp (A:=A1) hF3).alloc (.cells #[.int .i64 y.kind,.int .u64 (y.lsn:Nat),.slice y.ca y.l.length y.cc,.int .u32 (y.next:Nat),.slice y.da y.data.length y.dc,.int .u32 (y.root:Nat),.int .u32 (y.pages:Nat),.int .u32 (y.free:Nat),.int .u64 (y.entries:Nat)] 95);rw [hD];unfold bk;rw [hpw];exact ⟨⟨_,_,rfl,hk0,(hv.keep fun r _ hl=>Below.heap_alloc _ _ _ hl).lo hF.size,hB3.alloc _,rfl⟩,hF.rw hAR hF4⟩
  | ok x =>
   rw [hpw] at hP;clear hE hD hAR hF
   go_wp2_with (first
    | (
     go_at_call 47;refine hP.mono ?_;rintro e w3 ⟨⟨y,_,rfl,rfl,hy,hya,hylo⟩,hB3,hF3⟩
     obtain ⟨w4,hw4⟩:∃ w4,w4=w3.alloc (.cells y.cells 95):=⟨_,rfl⟩
     have hb4:Below w3.heap.size w3 w4:=(by rw [hw4];exact (bR _ _).alloc (nR _) _)
     have hX4:aa w4 w3.heap.size 95 y.cells:=(by rw [hw4];exact aa.new _ _ _)
     unfold NX.cells at hw4 hX4;unfold NX.val aJ;have HW4:=lH hw4;have HY:=lH (aI hy (aI hya hylo))
     clear hw4 hya hylo hy))
   have hpg:=qN hpw;have hxok:=qK hpg.2.2.1;have hxm:=lk hpg.2.2.1
   have hrise:(y.l.map CX.c).Pairwise fun a b=>a.key<b.key:=by
    have:=(jY _).1 (gP hxok hpg.2.2.2.symm).2.1;rw [<-HY.out.1] at this;exact this
   have hyk:y.kind=x.kind:=by rw [<-HY.out.1];rfl
   have hne:y.kind=2->y.l.length≠0:=fun h=>by
    have:=(gP hxok hpg.2.2.2.symm).1 (by rw [<-hyk];exact h);rw [<-HY.out.1] at this
    simpa [NX.n] using this
   obtain ⟨hE,hD,hAR,hF⟩:=HI.out;have hC3:=hE.cur.put (s':={s1 with pages:=s1.pages+1}) hF3 (by rw [hE.cur.len] at hB3;exact hB3) rfl rfl hpg.1;have hsz3:wo.heap.size<=w3.heap.size:=hF3.size;have hkw:∀ W,Below w3.heap.size w3 W->Reads W W.heap.size 1 tA key.length (bl key):=fun W hW=>ax HX.out.2.1 (hF.rw hAR ((Fr.rwp hF3).trans (Fr.of_below hW))) (fun h0 ad e hh=>HX.out.2.2 h0 ad e hh)
   obtain ⟨nx,HNX⟩:∃ nx:Int,Hid (((nS y.kind (y.l.map CX.c) key:Nat):Int)=nx):=⟨_,lH rfl⟩
   have hFr:Hid (∀ W,Below w4.heap.size w4 W->_):=lH fun W hW=>DC (y:=y) (w:=W) ((HY.out.2.1.below (hb4.trans (hW.mono hb4.size))).mono (hb4.trans (hW.mono hb4.size)).size) hrise tc (hkw W (hb4.trans (hW.mono hb4.size)));rw [HNX.out] at hFr
   obtain ⟨bb,hbb⟩:∃ bb,(y.kind==3)=bb:=⟨_,rfl⟩
   have hbb2:decide (y.kind=3)=bb:=by rw [<-hbb];rfl
   have hS4:∀ W,aa W w3.heap.size 95 #[.int .i64 y.kind,.int .u64 (y.lsn:Nat),.slice y.ca y.l.length y.cc,.int .u32 (y.next:Nat),.slice y.da y.data.length y.dc,.int .u32 (y.root:Nat),.int .u32 (y.pages:Nat),.int .u32 (y.free:Nat),.int .u64 (y.entries:Nat)]->(W.cell? ⟨w3.heap.size,0,none⟩=some (.int .i64 y.kind)/\W.cell? ⟨w3.heap.size,1,none⟩=some (.int .u64 (y.lsn:Nat))/\W.cell? ⟨w3.heap.size,2,none⟩=some (.slice y.ca y.l.length y.cc)/\W.cell? ⟨w3.heap.size,3,none⟩=some (.int .u32 (y.next:Nat))/\W.cell? ⟨w3.heap.size,4,none⟩=some (.slice y.da y.data.length y.dc)/\W.cell? ⟨w3.heap.size,5,none⟩=some (.int .u32 (y.root:Nat))/\W.cell? ⟨w3.heap.size,6,none⟩=some (.int .u32 (y.pages:Nat))/\W.cell? ⟨w3.heap.size,7,none⟩=some (.int .u32 (y.free:Nat))/\W.cell? ⟨w3.heap.size,8,none⟩=some (.int .u64 (y.entries:Nat))):=fun W h=>⟨h.cell 0,h.cell 1,h.cell 2,h.cell 3,h.cell 4,h.cell 5,h.cell 6,h.cell 7,h.cell 8⟩
   have HHE:=lH (aI hE (aI hD (aI hAR hF)));have HC3:=lH hC3;have HKW:=lH hkw;have HPG:=lH (aI hpg (aI hxok (aI hxm (aI hyk hne))));clear hE hD hAR hF hC3 hkw hpg hxok hxm hyk hne hrise hB3;unfold NX.val aJ at hFr;rw [<-HW4.out];refine bB 10 (fun W=>W.cell? ⟨w3.heap.size,0,none⟩=some (.int .i64 y.kind)/\W.cell? ⟨w3.heap.size,1,none⟩=some (.int .u64 (y.lsn:Nat))/\W.cell? ⟨w3.heap.size,2,none⟩=some (.slice y.ca y.l.length y.cc)/\W.cell? ⟨w3.heap.size,3,none⟩=some (.int .u32 (y.next:Nat))/\W.cell? ⟨w3.heap.size,4,none⟩=some (.slice y.da y.data.length y.dc)/\W.cell? ⟨w3.heap.size,5,none⟩=some (.int .u32 (y.root:Nat))/\W.cell? ⟨w3.heap.size,6,none⟩=some (.int .u32 (y.pages:Nat))/\W.cell? ⟨w3.heap.size,7,none⟩=some (.int .u32 (y.free:Nat))/\W.cell? ⟨w3.heap.size,8,none⟩=some (.int .u64 (y.entries:Nat))) (hS4 _ hX4) (fun hHeld hTl=>?_);refine ae 0 hTl hHeld (fun hTl=>?_)
   try simp only [pT]
   refine ae 1 hTl hHeld (fun hTl=>?_)
   try simp only [pT]
   refine ae 2 hTl hHeld (fun hTl=>?_)
   try simp only [pT]
   refine ae 3 hTl hHeld (fun hTl=>?_)
   try simp only [pT]
   refine ae 4 hTl hHeld (fun hTl=>?_)
   try simp only [pT]
   refine ae 5 hTl hHeld (fun hTl=>?_)
   try simp only [pT]
   refine ae 6 hTl hHeld (fun hTl=>?_)
   try simp only [pT]
   refine gi 7 9 rfl rfl (by kernel_rfl) (fun K hK=>?_) (fun K hK=>?_);have hTl:=hTl.step 7 (by kernel_rfl) (by decide);refine sC rfl 48 _ (by go_simp) (hFr.out _ ((bR _ w4).drew)) ?_;rintro e w5 ⟨rfl,hb5⟩;refine ⟨_,rfl,?_⟩;have hb5:Below w4.heap.size w4 w5:=((bR _ w4).drew).trans hb5;have hX5:=hX4.below hb5 hX4.lt;refine hK.out _ _ (fun _=>hS4 _ hX5) ?_;clear hK K
   try simp only [pT]
   have hHeld:=hS4 _ hX5;refine ae 8 hTl hHeld (fun hTl=>?_)
   try simp only [pT]
   clear hTl;refine aA 9 (fun K hK=>?_);go_simp;refine hK.out _ _ (fun _=>hS4 _ (hX5.alloc _)) ?_;clear hK K
   try simp only [pT]
   have hL5:aa (w5.alloc (.cells #[.bool false,.slice none 0 0,.int .i64 0] 115)) w5.heap.size 115 #[.bool false,.slice none 0 0,.int .i64 0]:=aa.new _ _ _;refine aA 10 (fun K hK=>?_);refine au rfl 115 (.tmp 9) (.tmp 29) rfl w5.heap.size _ rfl rfl 115 _ hL5 (by kernel_rfl) rfl (by simp [Value.oneCell']) ?_
   skip
   refine hK.out _ _ (fun h=>absurd h (by decide)) ?_;clear hK K
   try simp only [pT]
   refine cW ?_ _;have hLb:aa ((w5.alloc (.cells #[.bool false,.slice none 0 0,.int .i64 0] 115)).setRow w5.heap.size #[.bool bb,.slice y.ca y.l.length y.cc,.int .i64 nx]) w5.heap.size 115 #[.bool bb,.slice y.ca y.l.length y.cc,.int .i64 nx]:=setRow_heap _ _ _ _ _ _ hL5;have hbW:Below w4.heap.size w4 ((w5.alloc (.cells #[.bool false,.slice none 0 0,.int .i64 0] 115)).setRow w5.heap.size #[.bool bb,.slice y.ca y.l.length y.cc,.int .i64 nx]):=(hb5.alloc hb5.size _).trans ((fS _ w5.heap.size _).below (B:=w4.heap.size) (by rw [World.size_alloc];have:=hb5.size;omega) (fun k hk=>by have hk:k=w5.heap.size:=hk;have:=hb5.size;omega));have hb4c:w4.heap.size<=w5.heap.size:=hb5.size
   obtain ⟨W,hW⟩:∃ W,(w5.alloc (.cells #[.bool false,.slice none 0 0,.int .i64 0] 115)).setRow w5.heap.size #[.bool bb,.slice y.ca y.l.length y.cc,.int .i64 nx]=W:=⟨_,rfl⟩
   rw [hW] at hLb hbW ⊢
   obtain ⟨b,hbe⟩:∃ b,w5.heap.size=b:=⟨_,rfl⟩
   have hb4b:w4.heap.size<=b:=by omega
   rw [hbe] at hLb ⊢;clear hb4c hW hbe hX5 hHeld hL5 hb5;rotate_left;have hTl2:=hTl.step 9 (by kernel_rfl) (by decide);clear hTl;go_simp;refine hK.out _ _ (fun _=>hS4 _ ((hX4.drew).alloc _)) ?_;clear hK K
   try simp only [pT]
   have hTl:=hTl2;clear hTl2;have hL5:aa (w4.drew.alloc (.cells #[.bool false,.slice none 0 0,.int .i64 0] 115)) w4.heap.size 115 #[.bool false,.slice none 0 0,.int .i64 0]:=aa.new _ _ _;have hb5:Below w4.heap.size w4 (w4.drew.alloc (.cells #[.bool false,.slice none 0 0,.int .i64 0] 115)):=((bR _ w4).drew).alloc (nR _) _;have hTl2:=hTl.step 7 (by kernel_rfl) (by decide);clear hTl;refine sP 7 (hFr.out _ hb5) ?_
   rintro e w5 ⟨rfl,hb7⟩;have hb6:=hb5.trans (hb7.mono hb5.size);have hX5:=hX4.below hb6 hX4.lt
   refine ⟨_,rfl,(fun _=>hS4 _ hX5),?_⟩
   try simp only [pT]
   have hTl:=hTl2;clear hTl2;have hHeld:=hS4 _ hX5;refine ae 8 hTl hHeld (fun hTl=>?_)
   try simp only [pT]
   clear hTl;have hL6:aa w5 w4.heap.size 115 #[.bool false,.slice none 0 0,.int .i64 0]:=hL5.below hb7 hL5.lt;refine aA 10 (fun K hK=>?_);refine au rfl 115 (.tmp 9) (.tmp 29) rfl w4.heap.size _ rfl rfl 115 _ hL6 (by kernel_rfl) rfl (by simp [Value.oneCell']) ?_
   skip
   refine hK.out _ _ (fun h=>absurd h (by decide)) ?_;clear hK K
   try simp only [pT]
   refine cW ?_ _;have hLb:aa ((w5).setRow w4.heap.size #[.bool bb,.slice y.ca y.l.length y.cc,.int .i64 nx]) w4.heap.size 115 #[.bool bb,.slice y.ca y.l.length y.cc,.int .i64 nx]:=setRow_heap _ _ _ _ _ _ hL6;have hbW:Below w4.heap.size w4 ((w5).setRow w4.heap.size #[.bool bb,.slice y.ca y.l.length y.cc,.int .i64 nx]):=hb6.trans ((fS _ w4.heap.size _).below (B:=w4.heap.size) hb6.size (fun k hk=>by have hk:k=w4.heap.size:=hk;omega));have hb4c:w4.heap.size<=w4.heap.size:=nR _
   obtain ⟨W,hW⟩:∃ W,(w5).setRow w4.heap.size #[.bool bb,.slice y.ca y.l.length y.cc,.int .i64 nx]=W:=⟨_,rfl⟩
   rw [hW] at hLb hbW ⊢
   obtain ⟨b,hbe⟩:∃ b,w4.heap.size=b:=⟨_,rfl⟩
   have hb4b:w4.heap.size<=b:=by omega
   rw [hbe] at hLb ⊢;clear hb4c hW hbe hX5 hHeld hL5 hb5 hL6 hb6 hb7
   all_goals (
    have hbz:Below w3.heap.size w3 W:=hb4.trans (hbW.mono hb4.size);have hCz:=HC3.out.below hbz
    have hlow:∀ ad,A1=some ad->ad.block=b->False:=fun ad e hh=>by
     have:=(HHE.out.1.cur.rows.lo_row ad e).2;have:=hb4.size;have:=hF3.size;omega
    have hwn:∀ k,WZ Z B p A1 k->k<wo.heap.size:=HHE.out.1.cur.rows.far HHE.out.1.cur.zlt HHE.out.1.cur.blk.lt hpB;have hyz:=(HY.out.2.1.below hbz).mono hbz.size;have hco:∀ W,Below w3.heap.size w3 W->CO (WZ Z B p A1) W y.ca y.l:=fun W hbz=>(SO.of_node (q:=0) 0 ((HY.out.2.1.below hbz).mono hbz.size) HY.out.2.2 hwn HY.out.1 HPG.out.2.1 HPG.out.2.2.1 HPG.out.1.2.2.2 (by omega) (fun h2=>Nat.pos_of_ne_zero (HPG.out.2.2.2.2 (by rw [HPG.out.2.2.2.1];exact h2)))).cells
    have hmany:y.l.length<=120:=by
     have:=HPG.out.2.2.1.1;rw [<-HY.out.1] at this;have:(y.l.map CX.c).length<=120:=this;rw [List.length_map] at this;omega
    have hcs:x.cells=y.l.map CX.c:=by rw [<-HY.out.1];rfl
    have hkx:=HPG.out.2.2.2.1
    cases bb with
    | true =>
     have hk3:y.kind=3:=by simpa using hbb
     have hnx:nx=((ct x.cells key:Nat):Int):=by
      rw [<-HNX.out,hcs,hk3];rfl
     have HNE:=lH hnx;clear hnx
     have hnb:-1<=nx/\nx<=(y.l.length:Int):=by
      rw [<-HNX.out];have:=DG y.kind y.l key;omega
     have XLO:LO (WZ Z B p A1) W ⟨true,y.ca,y.l,y.cc,nx⟩:=⟨hco W hbz,hmany,hyz.fit,hnb.1,hnb.2⟩
     have XDI:qM 75 ⟨true,y.ca,y.l,y.cc,nx⟩:=by
      refine ⟨fun h9=>?_,fun h9=>?_⟩
      ·show 0<=nx;have:=HNE.out;omega
      ·exact absurd h9 (by decide)
     have c0:W.cell? ⟨b,0,none⟩=some (.bool true):=hLb.cell 0
     go_wp2_with fail
     have kS:∀ W,aa W p 75 #[.pointer (some ⟨T,0,none⟩),.slice A1 l1.length c1,.slice kA s1.last.length kc,.bool s1.any,.int .i64 (s1.pages+1:Nat),.bool s1.done]->aa W b 115 #[.bool true,.slice y.ca y.l.length y.cc,.int .i64 nx]->(W.cell? ⟨p,1,none⟩=some (.slice A1 l1.length c1)/\W.cell? ⟨b,0,none⟩=some (.bool true)/\W.cell? ⟨b,1,none⟩=some (.slice y.ca y.l.length y.cc)/\W.cell? ⟨b,2,none⟩=some (.int .i64 nx)):=fun W a b=>⟨a.cell 1,b.cell 0,b.cell 1,b.cell 2⟩
     refine bB 9 (fun W=>W.cell? ⟨p,1,none⟩=some (.slice A1 l1.length c1)/\W.cell? ⟨b,0,none⟩=some (.bool true)/\W.cell? ⟨b,1,none⟩=some (.slice y.ca y.l.length y.cc)/\W.cell? ⟨b,2,none⟩=some (.int .i64 nx)) (kS _ hCz.blk hLb) (fun hHeld hTl=>?_);refine ae 0 hTl hHeld (fun hTl=>?_)
     try simp only [pT]
     refine ae 1 hTl hHeld (fun hTl=>?_)
     try simp only [pT]
     refine ae 2 hTl hHeld (fun hTl=>?_)
     try simp only [pT]
     refine ae 3 hTl hHeld (fun hTl=>?_)
     try simp only [pT]
     refine ae 4 hTl hHeld (fun hTl=>?_)
     try simp only [pT]
     refine ae 5 hTl hHeld (fun hTl=>?_)
     try simp only [pT]
     refine ae 6 hTl hHeld (fun hTl=>?_)
     try simp only [pT]
     clear hTl;refine aA 7 (fun K hK=>?_);go_simp;refine hK.out _ _ (fun _=>kS _ ((hCz.blk.drew).alloc _) ((hLb.drew).alloc _)) ?_;clear hK K
     try simp only [pT]
     have hbu:Below W.heap.size W (W.drew.alloc (.cells #[.bool true,.slice y.ca y.l.length y.cc,.int .i64 nx] 115)):=((bR _ W).drew).alloc (nR _) _
     have hr6:Reads (W.drew.alloc (.cells #[.bool true,.slice y.ca y.l.length y.cc,.int .i64 nx] 115)) (W.heap.size+1) 3 (some ⟨W.heap.size,0,none⟩) 1 (fu [⟨true,y.ca,y.l,y.cc,nx⟩]):=by
      have:=fy (aa.new W.drew 115 #[.bool true,.slice y.ca y.l.length y.cc,.int .i64 nx]) (size:=3) rfl
      simpa [fu,LX.vals] using this
     have h7:=fun (wv:World) (hg7:World.grownBy (W.drew.alloc (.cells #[.bool true,.slice y.ca y.l.length y.cc,.int .i64 nx] 115)) wv (.slice A1 l1.length c1:Value).ownBlock)=>kS wv ((aW hg7 (hCz.below hbu).blk.lt (hCz.below hbu).rows.sep).trans (hCz.below hbu).blk) ((aW hg7 ((hLb.drew).alloc (.cells #[.bool true,.slice y.ca y.l.length y.cc,.int .i64 nx] 115)).lt (fun ad e hh=>hlow ad e (by omega))).trans ((hLb.drew).alloc _));refine aA 8 (fun K hK=>?_);refine jC IL rfl rfl B rfl (hCz.below hbu).rows.row rfl hr6 (mw _) (by omega) (nT (Nat.le_of_lt (Nat.lt_of_le_of_lt hpB hCz.blk.lt)) hbu.size) (k:=(l1++[(⟨true,y.ca,y.l,y.cc,nx⟩:LX)]).length) (by simp) (eT _ _) ?_;intro A7 c7 wv ho7 hg7 hob7;refine hK.out _ _ (fun _=>h7 _ hg7) ?_;clear hK K
     try simp only [pT]
     have c17:=(h7 _ hg7).1;have f17:wv.frozen? ⟨p,1,none⟩=false:=aa.frozen (cs:=#[.pointer (some ⟨T,0,none⟩),.slice A1 l1.length c1,.slice kA s1.last.length kc,.bool s1.any,.int .i64 (s1.pages+1:Nat),.bool s1.done]) (t:=75) ((aW hg7 (hCz.below hbu).blk.lt (hCz.below hbu).rows.sep).trans (hCz.below hbu).blk) 1;clear kS h7;refine az 9 (fun K hK=>?_);go_simp;refine hK.out _ _ ?_;clear hK K
     try simp only [pT]
     refine az 10 (fun K hK=>?_);go_simp;refine hK.out _ _ ?_;clear hK K
     try simp only [pT]
     refine az 11 (fun K hK=>?_);go_simp;refine hK.out _ _ ?_;clear hK K
     try simp only [pT]
     refine az 12 (fun K hK=>?_);go_simp;refine hK.out _ _ ?_;clear hK K
     try simp only [pT]
     refine cW ?_ _;obtain ⟨hC8,hAR8,hF8⟩:=hCz.push hbu hg7 ho7 hob7 XLO XDI (by rw [<-HHE.out.1.cur.len];exact HPG.out.1.2.1);have hbz8:=hbz.trans (hbu.mono hbz.size)
     go_wp2_with fail
     go_ret;obtain ⟨hE,hD,hAR,hF⟩:=HHE.out;rw [hD];unfold bk;rw [hpw];simp only;rw [if_pos (by rw [<-hkx];exact hk3)]
     have hF9:=(hF.rw hAR ((Fr.rwp hF3).trans ((Fr.of_below hbz8).trans hF8)))
     rw [lQ,List.length_singleton] at hF9 hC8
     have e9:(LX.sl ⟨true,y.ca,y.l,y.cc,nx⟩:SL)=⟨true,x.cells,nx⟩:=by rw [hcs];rfl
     rw [<-HNE.out,<-e9];exact ⟨⟨rfl,A7,c7,_,hC8,hAR.trans hAR8 (nT hF.size (nT hF3.size hbz8.size))⟩,hF9⟩
    | false =>
     have hk2:y.kind=2:=by
      rcases HPG.out.1.2.2.2 with h | h
      ·rw [<-hkx] at h;rw [h] at hbb
       cases hbb
      ·rw [hkx];exact h
     obtain ⟨kk,rfl,hkl2,hkk2⟩:∃ kk:Nat,nx=(kk:Int)/\kk<y.l.length/\nQ x.cells key-1=kk:=⟨nS 2 (y.l.map CX.c) key,by rw [<-HNX.out,hk2],DI key (HPG.out.2.2.2.2 hk2),by rw [hcs];rfl⟩
     obtain ⟨z,hz⟩:∃ z,y.l[kk]?=some z:=⟨_,gE hkl2⟩
     obtain ⟨g,o,hga,hgl,hgc⟩:=hyz.cells.at_ (by omega);have hck:=(hgc kk z hz).2.2.2.2;have hzk:z.c.kid<4294967296:=(hyz.fit z (mG hz)).2;rw [hga] at hLb;have c0:W.cell? ⟨b,0,none⟩=some (.bool false):=hLb.cell 0;have c1x:W.cell? ⟨b,1,none⟩=some (.slice (some ⟨g,o,none⟩) y.l.length y.cc):=hLb.cell 1;have c2x:W.cell? ⟨b,2,none⟩=some (.int .i64 (kk:Nat)):=hLb.cell 2;have f2x:W.frozen? ⟨b,2,none⟩=false:=hLb.frozen 2
     have i1:(0:Int)<=(kk:Int):=by omega
     have i2:(kk:Int)<(y.l.length:Int):=by omega
     have i3:((kk:Int)).toNat=kk:=by omega
     obtain ⟨n2,HN2⟩:∃ n2:Int,Hid ((kk:Int)+1=n2):=⟨_,lH rfl⟩
     have e2:IntKind.i64.wrap ((kk:Int)+1)=n2:=by rw [IntKind.wrap_i64];have:=HN2.out;omega
     have hLy:=hLb.set_ 2 (.int .i64 n2);have HK2:=lH (aI hk2 (aI hkk2 (aI hga hz)));clear hk2 hkk2 hz hgc;rw [hga]
     go_wp2_with fail
     clear hga
     obtain ⟨W2,hW2⟩:∃ W2,W.setCell ⟨b,2,none⟩ (.int .i64 n2)=W2:=⟨_,rfl⟩
     rw [hW2] at hLy ⊢
     have hby:Below w3.heap.size w3 W2:=by rw [<-hW2];exact hbz.setCell (p:=⟨b,2,none⟩) (by show w3.heap.size<=b;have:=hb4.size;omega) _
     have hLy:aa W2 b 115 #[.bool false,.slice (some ⟨g,o,none⟩) y.l.length y.cc,.int .i64 n2]:=hLy;have hCy:=HC3.out.below hby
     have XLO:LO (WZ Z B p A1) W2 ⟨false,some ⟨g,o,none⟩,y.l,y.cc,n2⟩:=⟨by have:=hco W2 hby;rw [HK2.out.2.2.1] at this;exact this,hmany,hyz.fit,by have:=HN2.out;show -1<=n2;omega,by have:=HN2.out;show n2<=(y.l.length:Int);omega⟩
     have XDI:qM 75 ⟨false,some ⟨g,o,none⟩,y.l,y.cc,n2⟩:=by
      have:=HN2.out;refine ⟨fun h9=>?_,fun h9=>?_⟩
      ·show 0<=n2;omega
      ·exact absurd h9 (by decide)
     clear hW2 c0 c1x c2x f2x hck
     have kS:∀ W,aa W p 75 #[.pointer (some ⟨T,0,none⟩),.slice A1 l1.length c1,.slice kA s1.last.length kc,.bool s1.any,.int .i64 (s1.pages+1:Nat),.bool s1.done]->aa W b 115 #[.bool false,.slice (some ⟨g,o,none⟩) y.l.length y.cc,.int .i64 n2]->(W.cell? ⟨p,1,none⟩=some (.slice A1 l1.length c1)/\W.cell? ⟨b,0,none⟩=some (.bool false)/\W.cell? ⟨b,1,none⟩=some (.slice (some ⟨g,o,none⟩) y.l.length y.cc)/\W.cell? ⟨b,2,none⟩=some (.int .i64 n2)):=fun W a b=>⟨a.cell 1,b.cell 0,b.cell 1,b.cell 2⟩
     refine bB 9 (fun W=>W.cell? ⟨p,1,none⟩=some (.slice A1 l1.length c1)/\W.cell? ⟨b,0,none⟩=some (.bool false)/\W.cell? ⟨b,1,none⟩=some (.slice (some ⟨g,o,none⟩) y.l.length y.cc)/\W.cell? ⟨b,2,none⟩=some (.int .i64 n2)) (kS _ hCy.blk hLy) (fun hHeld hTl=>?_);refine ae 0 hTl hHeld (fun hTl=>?_)
     try simp only [pT]
     refine ae 1 hTl hHeld (fun hTl=>?_)
     try simp only [pT]
     refine ae 2 hTl hHeld (fun hTl=>?_)
     try simp only [pT]
     refine ae 3 hTl hHeld (fun hTl=>?_)
     try simp only [pT]
     refine ae 4 hTl hHeld (fun hTl=>?_)
     try simp only [pT]
     refine ae 5 hTl hHeld (fun hTl=>?_)
     try simp only [pT]
     refine ae 6 hTl hHeld (fun hTl=>?_)
     try simp only [pT]
     clear hTl;refine aA 7 (fun K hK=>?_);go_simp;refine hK.out _ _ (fun _=>kS _ ((hCy.blk.drew).alloc _) ((hLy.drew).alloc _)) ?_;clear hK K
     try simp only [pT]
     have hbu:Below W2.heap.size W2 (W2.drew.alloc (.cells #[.bool false,.slice (some ⟨g,o,none⟩) y.l.length y.cc,.int .i64 n2] 115)):=((bR _ W2).drew).alloc (nR _) _
     have hr6:Reads (W2.drew.alloc (.cells #[.bool false,.slice (some ⟨g,o,none⟩) y.l.length y.cc,.int .i64 n2] 115)) (W2.heap.size+1) 3 (some ⟨W2.heap.size,0,none⟩) 1 (fu [⟨false,some ⟨g,o,none⟩,y.l,y.cc,n2⟩]):=by
      have:=fy (aa.new W2.drew 115 #[.bool false,.slice (some ⟨g,o,none⟩) y.l.length y.cc,.int .i64 n2]) (size:=3) rfl
      simpa [fu,LX.vals] using this
     have h7:=fun (wv:World) (hg7:World.grownBy (W2.drew.alloc (.cells #[.bool false,.slice (some ⟨g,o,none⟩) y.l.length y.cc,.int .i64 n2] 115)) wv (.slice A1 l1.length c1:Value).ownBlock)=>kS wv ((aW hg7 (hCy.below hbu).blk.lt (hCy.below hbu).rows.sep).trans (hCy.below hbu).blk) ((aW hg7 ((hLy.drew).alloc (.cells #[.bool false,.slice (some ⟨g,o,none⟩) y.l.length y.cc,.int .i64 n2] 115)).lt (fun ad e hh=>hlow ad e (by omega))).trans ((hLy.drew).alloc _));refine aA 8 (fun K hK=>?_);refine jC IL rfl rfl B rfl (hCy.below hbu).rows.row rfl hr6 (mw _) (by omega) (nT (Nat.le_of_lt (Nat.lt_of_le_of_lt hpB hCy.blk.lt)) hbu.size) (k:=(l1++[(⟨false,some ⟨g,o,none⟩,y.l,y.cc,n2⟩:LX)]).length) (by simp) (eT _ _) ?_;intro A7 c7 wv ho7 hg7 hob7;refine hK.out _ _ (fun _=>h7 _ hg7) ?_;clear hK K
     try simp only [pT]
     have c17:=(h7 _ hg7).1;have f17:wv.frozen? ⟨p,1,none⟩=false:=aa.frozen (cs:=#[.pointer (some ⟨T,0,none⟩),.slice A1 l1.length c1,.slice kA s1.last.length kc,.bool s1.any,.int .i64 (s1.pages+1:Nat),.bool s1.done]) (t:=75) ((aW hg7 (hCy.below hbu).blk.lt (hCy.below hbu).rows.sep).trans (hCy.below hbu).blk) 1;clear kS h7;refine az 9 (fun K hK=>?_);go_simp;refine hK.out _ _ ?_;clear hK K
     try simp only [pT]
     refine az 10 (fun K hK=>?_);go_simp;refine hK.out _ _ ?_;clear hK K
     try simp only [pT]
     refine az 11 (fun K hK=>?_);go_simp;refine hK.out _ _ ?_;clear hK K
     try simp only [pT]
     refine az 12 (fun K hK=>?_);go_simp;refine hK.out _ _ ?_;clear hK K
     try simp only [pT]
     refine cW ?_ _;obtain ⟨hC8,hAR8,hF8⟩:=hCy.push hbu hg7 ho7 hob7 XLO XDI (by rw [<-HHE.out.1.cur.len];exact HPG.out.1.2.1);have hby8:=hby.trans (hbu.mono hby.size)
     go_wp2_with fail
     obtain ⟨hE,hD,hAR,hF⟩:=HHE.out;have hFw:=(Fr.rwp (A:=A1) hF3).trans ((Fr.of_below hby8).trans hF8);rw [lQ,List.length_singleton] at hFw hC8
     have e9:(LX.sl ⟨false,some ⟨g,o,none⟩,y.l,y.cc,n2⟩:SL)=⟨false,x.cells,n2⟩:=by rw [hcs];rfl
     have hD2:bk t 21 s n key=bk t f (s1.push ⟨false,x.cells,n2⟩) z.c.kid key:=by
      rw [hD]
      conv=>lhs;unfold bk
      rw [hpw];simp only;rw [if_neg (by rw [<-hkx,HK2.out.1];decide),HK2.out.2.1,HN2.out,show sE x.cells kk=z.c.kid by rw [hcs];exact DF HK2.out.2.2.2]
     have hC9:CW Z 75 B p T (wv.setCell ⟨p,1,none⟩ (.slice A7 (l1.length+1) c7)) A7 c7 kA kc (l1++[⟨false,some ⟨g,o,none⟩,y.l,y.cc,n2⟩]) (s1.push ⟨false,x.cells,n2⟩):=by rw [<-e9];exact hC8
     have cz:=hC9.blk.cell 1;rw [lQ,List.length_singleton] at cz
     have hlt20:l1.length<20:=by rw [<-hE.cur.len];exact HPG.out.1.2.1
     go_roundw
     case rel=>exact ⟨l1++[(⟨false,some ⟨g,o,none⟩,y.l,y.cc,n2⟩:LX)],A7,c7,z.c.kid,f,s1.push ⟨false,x.cells,n2⟩,rfl,hzk,hE.next hFw hC9,hD2,by rw [lQ,List.length_singleton];omega,hAR.trans hAR8 (nT hF.size (nT hF3.size hby8.size)),hF.rw hAR hFw⟩
     case measure=>first | (rw [hmy];simp only [cz];simp;omega) | (simp [hmy,cz];omega))
theorem qP {Z:Nat->Prop} {B p T M:Nat} {X:Nat->Prop} {w:World} {t:PT} {A:Option Addr} {cc:Nat} {kA:Option Addr} {kc:Nat} {l:List LX} {s:SW} (h:aR Z 81 B p T M X w t A cc kA kc l s) (n:Nat) (hn:n<4294967296) {tA:Option Addr} (tc:Nat) {key:List UInt8} (hkey:Reads w w.heap.size 1 tA key.length (bl key)) (hNK:NK p A key tA) (hkl:key.length<=3000000) :
 Calls Tryz.prog 31 #[.pointer (some ⟨p,0,none⟩),.int .u32 (n:Nat),.slice tA key.length tc] w fun e w'=>DD Z 81 B p T w A kA kc (bm t 21 s n key) e w':=by
 have HX:=lH (aI h (aI hkey hNK));clear h hkey hNK;go_enter Tryz.func31,Tryz.ntmps31;go_wp2
 go_loopw [1] (fun q wr=>∃ (l1:List LX) (A1:Option Addr) (c1 n1 f:Nat) (s1:SW),q=.int .u32 (n1:Nat)/\n1<4294967296/\aR Z 81 B p T M X wr t A1 c1 kA kc l1 s1/\bm t 21 s n key=bm t f s1 n1 key/\21<=f+l1.length/\AR w.heap.size A A1/\Fr (RW p A) w wr) (fun _ wr=>match wr.cell? ⟨p,1,none⟩ with
  | some (.slice _ n _)=>21-n
  | _=>0)
 case atStart=>exact ⟨l,A,cc,n,21,s,rfl,hn,HX.out.1,rfl,by omega,AR.refl _ _,Fr.refl _ _⟩
 case round =>
  obtain ⟨l1,A1,c1,n1,f,s1,rfl,hn1,hE,hD,hfl,hAR,hF⟩:=hrel
  obtain ⟨wo,rfl⟩:∃ wo,wo=wr:=⟨wr,rfl⟩
  have hmy:wo.cell? ⟨p,1,none⟩=some (.slice A1 l1.length c1):=hE.cur.blk.cell 1;have hfew:=hE.cur.few
  obtain ⟨f,rfl⟩:∃ f',f=f'+1:=⟨f-1,by omega⟩
  have hpB:=hE.cur.lo;have hP:=wC (ty:=81) (p:=p) (c:=s1) (A:=A1) (cc:=c1) (lv:=.slice kA s1.last.length kc) (av:=.bool s1.any) (dv:=.bool s1.done) hE.tx (fun hx=>by have:=hE.xl _ hx;omega) hE.ok hE.g hE.pow (lT hE.pw hpB) (by rw [hE.cur.len];exact hE.cur.blk) (by have:=hE.cur.pg;omega) (by rw [hE.cur.len];exact hfew) n1 hn1;have HI:=lH (aI hE (aI hD (aI hAR hF)))
  cases hpw:kG t s1 n1 with
  | error k =>
   rw [hpw] at hP;clear hE hD hAR hF
   go_wp2_with (first
    | (
     go_at_call 47;refine hP.mono ?_;rintro e w3 ⟨⟨y,v,rfl,hk0,hv⟩,hB3,hF3⟩
     have hvv:∃ tv pe,v=.iface tv pe:=(by rcases hv with ⟨h9,_⟩ | ⟨_,e9⟩ | ⟨_,r,op,nm,e9,_⟩;exact absurd h9 hk0;exact ⟨_,_,e9⟩;exact ⟨_,_,e9⟩)
     obtain ⟨tv,pe,rfl⟩:=hvv
     unfold NX.val aJ))
   go_ret;obtain ⟨hE,hD,hAR,hF⟩:=HI.out;have hF4:=(Fr.rwp (A:=A1) hF3).alloc (.cells #[.int .i64 y.kind,.int .u64 (y.lsn:Nat),.slice y.ca y.l.length y.cc,.int .u32 (y.next:Nat),.slice y.da y.data.length y.dc,.int .u32 (y.root:Nat),.int .u32 (y.pages:Nat),.int .u32 (y.free:Nat),.int .u64 (y.entries:Nat)] 95);rw [hD];unfold bm;rw [hpw];exact ⟨⟨_,_,rfl,hk0,(hv.keep fun r _ hl=>Below.heap_alloc _ _ _ hl).lo hF.size,hB3.alloc _,rfl⟩,hF.rw hAR hF4⟩
  | ok x =>
   rw [hpw] at hP;clear hE hD hAR hF
   go_wp2_with (first
    | (
     go_at_call 47;refine hP.mono ?_;rintro e w3 ⟨⟨y,_,rfl,rfl,hy,hya,hylo⟩,hB3,hF3⟩
     obtain ⟨w4,hw4⟩:∃ w4,w4=w3.alloc (.cells y.cells 95):=⟨_,rfl⟩
     have hb4:Below w3.heap.size w3 w4:=(by rw [hw4];exact (bR _ _).alloc (nR _) _)
     have hX4:aa w4 w3.heap.size 95 y.cells:=(by rw [hw4];exact aa.new _ _ _)
     unfold NX.cells at hw4 hX4;unfold NX.val aJ;have HW4:=lH hw4;have HY:=lH (aI hy (aI hya hylo))
     clear hw4 hya hylo hy))
   have hpg:=qN hpw;have hxok:=qK hpg.2.2.1;have hxm:=lk hpg.2.2.1
   have hrise:(y.l.map CX.c).Pairwise fun a b=>a.key<b.key:=by
    have:=(jY _).1 (gP hxok hpg.2.2.2.symm).2.1;rw [<-HY.out.1] at this;exact this
   have hyk:y.kind=x.kind:=by rw [<-HY.out.1];rfl
   have hne:y.kind=2->y.l.length≠0:=fun h=>by
    have:=(gP hxok hpg.2.2.2.symm).1 (by rw [<-hyk];exact h);rw [<-HY.out.1] at this
    simpa [NX.n] using this
   obtain ⟨hE,hD,hAR,hF⟩:=HI.out;have hC3:=hE.cur.put (s':={s1 with pages:=s1.pages+1}) hF3 (by rw [hE.cur.len] at hB3;exact hB3) rfl rfl hpg.1;have hsz3:wo.heap.size<=w3.heap.size:=hF3.size;have hkw:∀ W,Below w3.heap.size w3 W->Reads W W.heap.size 1 tA key.length (bl key):=fun W hW=>ax HX.out.2.1 (hF.rw hAR ((Fr.rwp hF3).trans (Fr.of_below hW))) (fun h0 ad e hh=>HX.out.2.2 h0 ad e hh)
   obtain ⟨nx,HNX⟩:∃ nx:Int,Hid (((iL y.kind (y.l.map CX.c) key:Int):Int)=nx):=⟨_,lH rfl⟩
   have hFr:Hid (∀ W,Below w4.heap.size w4 W->_):=lH fun W hW=>BM (y:=y) (w:=W) ((HY.out.2.1.below (hb4.trans (hW.mono hb4.size))).mono (hb4.trans (hW.mono hb4.size)).size) hrise hne tc (hkw W (hb4.trans (hW.mono hb4.size))) hkl;rw [HNX.out] at hFr
   obtain ⟨bb,hbb⟩:∃ bb,(y.kind==3)=bb:=⟨_,rfl⟩
   have hbb2:decide (y.kind=3)=bb:=by rw [<-hbb];rfl
   have hS4:∀ W,aa W w3.heap.size 95 #[.int .i64 y.kind,.int .u64 (y.lsn:Nat),.slice y.ca y.l.length y.cc,.int .u32 (y.next:Nat),.slice y.da y.data.length y.dc,.int .u32 (y.root:Nat),.int .u32 (y.pages:Nat),.int .u32 (y.free:Nat),.int .u64 (y.entries:Nat)]->(W.cell? ⟨w3.heap.size,0,none⟩=some (.int .i64 y.kind)/\W.cell? ⟨w3.heap.size,1,none⟩=some (.int .u64 (y.lsn:Nat))/\W.cell? ⟨w3.heap.size,2,none⟩=some (.slice y.ca y.l.length y.cc)/\W.cell? ⟨w3.heap.size,3,none⟩=some (.int .u32 (y.next:Nat))/\W.cell? ⟨w3.heap.size,4,none⟩=some (.slice y.da y.data.length y.dc)/\W.cell? ⟨w3.heap.size,5,none⟩=some (.int .u32 (y.root:Nat))/\W.cell? ⟨w3.heap.size,6,none⟩=some (.int .u32 (y.pages:Nat))/\W.cell? ⟨w3.heap.size,7,none⟩=some (.int .u32 (y.free:Nat))/\W.cell? ⟨w3.heap.size,8,none⟩=some (.int .u64 (y.entries:Nat))):=fun W h=>⟨h.cell 0,h.cell 1,h.cell 2,h.cell 3,h.cell 4,h.cell 5,h.cell 6,h.cell 7,h.cell 8⟩
   have HHE:=lH (aI hE (aI hD (aI hAR hF)));have HC3:=lH hC3;have HKW:=lH hkw;have HPG:=lH (aI hpg (aI hxok (aI hxm (aI hyk hne))));clear hE hD hAR hF hC3 hkw hpg hxok hxm hyk hne hrise hB3;unfold NX.val aJ at hFr;rw [<-HW4.out];refine bB 10 (fun W=>W.cell? ⟨w3.heap.size,0,none⟩=some (.int .i64 y.kind)/\W.cell? ⟨w3.heap.size,1,none⟩=some (.int .u64 (y.lsn:Nat))/\W.cell? ⟨w3.heap.size,2,none⟩=some (.slice y.ca y.l.length y.cc)/\W.cell? ⟨w3.heap.size,3,none⟩=some (.int .u32 (y.next:Nat))/\W.cell? ⟨w3.heap.size,4,none⟩=some (.slice y.da y.data.length y.dc)/\W.cell? ⟨w3.heap.size,5,none⟩=some (.int .u32 (y.root:Nat))/\W.cell? ⟨w3.heap.size,6,none⟩=some (.int .u32 (y.pages:Nat))/\W.cell? ⟨w3.heap.size,7,none⟩=some (.int .u32 (y.free:Nat))/\W.cell? ⟨w3.heap.size,8,none⟩=some (.int .u64 (y.entries:Nat))) (hS4 _ hX4) (fun hHeld hTl=>?_);refine ae 0 hTl hHeld (fun hTl=>?_)
   try simp only [pT]
   refine ae 1 hTl hHeld (fun hTl=>?_)
   try simp only [pT]
   refine ae 2 hTl hHeld (fun hTl=>?_)
   try simp only [pT]
   refine ae 3 hTl hHeld (fun hTl=>?_)
   try simp only [pT]
   refine ae 4 hTl hHeld (fun hTl=>?_)
   try simp only [pT]
   refine ae 5 hTl hHeld (fun hTl=>?_)
   try simp only [pT]
   refine ae 6 hTl hHeld (fun hTl=>?_)
   try simp only [pT]
   refine gi 7 9 rfl rfl (by kernel_rfl) (fun K hK=>?_) (fun K hK=>?_);have hTl:=hTl.step 7 (by kernel_rfl) (by decide);refine sC rfl 50 _ (by go_simp) (hFr.out _ ((bR _ w4).drew)) ?_;rintro e w5 ⟨rfl,hb5⟩;refine ⟨_,rfl,?_⟩;have hb5:Below w4.heap.size w4 w5:=((bR _ w4).drew).trans hb5;have hX5:=hX4.below hb5 hX4.lt;refine hK.out _ _ (fun _=>hS4 _ hX5) ?_;clear hK K
   try simp only [pT]
   have hHeld:=hS4 _ hX5;refine ae 8 hTl hHeld (fun hTl=>?_)
   try simp only [pT]
   clear hTl;refine aA 9 (fun K hK=>?_);go_simp;refine hK.out _ _ (fun _=>hS4 _ (hX5.alloc _)) ?_;clear hK K
   try simp only [pT]
   have hL5:aa (w5.alloc (.cells #[.bool false,.slice none 0 0,.int .i64 0] 115)) w5.heap.size 115 #[.bool false,.slice none 0 0,.int .i64 0]:=aa.new _ _ _;refine aA 10 (fun K hK=>?_);refine au rfl 115 (.tmp 9) (.tmp 29) rfl w5.heap.size _ rfl rfl 115 _ hL5 (by kernel_rfl) rfl (by simp [Value.oneCell']) ?_
   skip
   refine hK.out _ _ (fun h=>absurd h (by decide)) ?_;clear hK K
   try simp only [pT]
   refine cW ?_ _;have hLb:aa ((w5.alloc (.cells #[.bool false,.slice none 0 0,.int .i64 0] 115)).setRow w5.heap.size #[.bool bb,.slice y.ca y.l.length y.cc,.int .i64 nx]) w5.heap.size 115 #[.bool bb,.slice y.ca y.l.length y.cc,.int .i64 nx]:=setRow_heap _ _ _ _ _ _ hL5;have hbW:Below w4.heap.size w4 ((w5.alloc (.cells #[.bool false,.slice none 0 0,.int .i64 0] 115)).setRow w5.heap.size #[.bool bb,.slice y.ca y.l.length y.cc,.int .i64 nx]):=(hb5.alloc hb5.size _).trans ((fS _ w5.heap.size _).below (B:=w4.heap.size) (by rw [World.size_alloc];have:=hb5.size;omega) (fun k hk=>by have hk:k=w5.heap.size:=hk;have:=hb5.size;omega));have hb4c:w4.heap.size<=w5.heap.size:=hb5.size
   obtain ⟨W,hW⟩:∃ W,(w5.alloc (.cells #[.bool false,.slice none 0 0,.int .i64 0] 115)).setRow w5.heap.size #[.bool bb,.slice y.ca y.l.length y.cc,.int .i64 nx]=W:=⟨_,rfl⟩
   rw [hW] at hLb hbW ⊢
   obtain ⟨b,hbe⟩:∃ b,w5.heap.size=b:=⟨_,rfl⟩
   have hb4b:w4.heap.size<=b:=by omega
   rw [hbe] at hLb ⊢;clear hb4c hW hbe hX5 hHeld hL5 hb5;rotate_left;have hTl2:=hTl.step 9 (by kernel_rfl) (by decide);clear hTl;go_simp;refine hK.out _ _ (fun _=>hS4 _ ((hX4.drew).alloc _)) ?_;clear hK K
   try simp only [pT]
   have hTl:=hTl2;clear hTl2;have hL5:aa (w4.drew.alloc (.cells #[.bool false,.slice none 0 0,.int .i64 0] 115)) w4.heap.size 115 #[.bool false,.slice none 0 0,.int .i64 0]:=aa.new _ _ _;have hb5:Below w4.heap.size w4 (w4.drew.alloc (.cells #[.bool false,.slice none 0 0,.int .i64 0] 115)):=((bR _ w4).drew).alloc (nR _) _;have hTl2:=hTl.step 7 (by kernel_rfl) (by decide);clear hTl;refine sP 7 (hFr.out _ hb5) ?_
   rintro e w5 ⟨rfl,hb7⟩;have hb6:=hb5.trans (hb7.mono hb5.size);have hX5:=hX4.below hb6 hX4.lt
   refine ⟨_,rfl,(fun _=>hS4 _ hX5),?_⟩
   try simp only [pT]
   have hTl:=hTl2;clear hTl2;have hHeld:=hS4 _ hX5;refine ae 8 hTl hHeld (fun hTl=>?_)
   try simp only [pT]
   clear hTl;have hL6:aa w5 w4.heap.size 115 #[.bool false,.slice none 0 0,.int .i64 0]:=hL5.below hb7 hL5.lt;refine aA 10 (fun K hK=>?_);refine au rfl 115 (.tmp 9) (.tmp 29) rfl w4.heap.size _ rfl rfl 115 _ hL6 (by kernel_rfl) rfl (by simp [Value.oneCell']) ?_
   skip
   refine hK.out _ _ (fun h=>absurd h (by decide)) ?_;clear hK K
   try simp only [pT]
   refine cW ?_ _;have hLb:aa ((w5).setRow w4.heap.size #[.bool bb,.slice y.ca y.l.length y.cc,.int .i64 nx]) w4.heap.size 115 #[.bool bb,.slice y.ca y.l.length y.cc,.int .i64 nx]:=setRow_heap _ _ _ _ _ _ hL6;have hbW:Below w4.heap.size w4 ((w5).setRow w4.heap.size #[.bool bb,.slice y.ca y.l.length y.cc,.int .i64 nx]):=hb6.trans ((fS _ w4.heap.size _).below (B:=w4.heap.size) hb6.size (fun k hk=>by have hk:k=w4.heap.size:=hk;omega));have hb4c:w4.heap.size<=w4.heap.size:=nR _
   obtain ⟨W,hW⟩:∃ W,(w5).setRow w4.heap.size #[.bool bb,.slice y.ca y.l.length y.cc,.int .i64 nx]=W:=⟨_,rfl⟩
   rw [hW] at hLb hbW ⊢
   obtain ⟨b,hbe⟩:∃ b,w4.heap.size=b:=⟨_,rfl⟩
   have hb4b:w4.heap.size<=b:=by omega
   rw [hbe] at hLb ⊢;clear hb4c hW hbe hX5 hHeld hL5 hb5 hL6 hb6 hb7
   all_goals (
    have hbz:Below w3.heap.size w3 W:=hb4.trans (hbW.mono hb4.size);have hCz:=HC3.out.below hbz
    have hlow:∀ ad,A1=some ad->ad.block=b->False:=fun ad e hh=>by
     have:=(HHE.out.1.cur.rows.lo_row ad e).2;have:=hb4.size;have:=hF3.size;omega
    have hwn:∀ k,WZ Z B p A1 k->k<wo.heap.size:=HHE.out.1.cur.rows.far HHE.out.1.cur.zlt HHE.out.1.cur.blk.lt hpB;have hyz:=(HY.out.2.1.below hbz).mono hbz.size;have hco:∀ W,Below w3.heap.size w3 W->CO (WZ Z B p A1) W y.ca y.l:=fun W hbz=>(SO.of_node (q:=0) 0 ((HY.out.2.1.below hbz).mono hbz.size) HY.out.2.2 hwn HY.out.1 HPG.out.2.1 HPG.out.2.2.1 HPG.out.1.2.2.2 (by omega) (fun h2=>Nat.pos_of_ne_zero (HPG.out.2.2.2.2 (by rw [HPG.out.2.2.2.1];exact h2)))).cells
    have hmany:y.l.length<=120:=by
     have:=HPG.out.2.2.1.1;rw [<-HY.out.1] at this;have:(y.l.map CX.c).length<=120:=this;rw [List.length_map] at this;omega
    have hcs:x.cells=y.l.map CX.c:=by rw [<-HY.out.1];rfl
    have hkx:=HPG.out.2.2.2.1
    cases bb with
    | true =>
     have hk3:y.kind=3:=by simpa using hbb
     have hnx:nx=((lj x.cells key:Nat):Int)-1:=by
      rw [<-HNX.out,hcs,hk3];rfl
     have HNE:=lH hnx;clear hnx
     have hnb:-1<=nx/\nx<=(y.l.length:Int):=by
      rw [<-HNX.out];have:=sG y.kind y.l key HPG.out.2.2.2.2;omega
     have XLO:LO (WZ Z B p A1) W ⟨true,y.ca,y.l,y.cc,nx⟩:=⟨hco W hbz,hmany,hyz.fit,hnb.1,hnb.2⟩
     have XDI:qM 81 ⟨true,y.ca,y.l,y.cc,nx⟩:=by
      refine ⟨fun h9=>?_,fun h9=>?_⟩
      ·exact absurd h9 (by decide)
      ·show nx<(y.l.length:Int);have:=HNE.out;have h8:=ic y.l key;have h7:lj x.cells key<=y.l.length:=by unfold lj;rw [hcs];split <;> (try rw [List.length_map]) <;> omega
       omega
     have c0:W.cell? ⟨b,0,none⟩=some (.bool true):=hLb.cell 0
     go_wp2_with fail
     have kS:∀ W,aa W p 81 #[.pointer (some ⟨T,0,none⟩),.slice A1 l1.length c1,.slice kA s1.last.length kc,.bool s1.any,.int .i64 (s1.pages+1:Nat),.bool s1.done]->aa W b 115 #[.bool true,.slice y.ca y.l.length y.cc,.int .i64 nx]->(W.cell? ⟨p,1,none⟩=some (.slice A1 l1.length c1)/\W.cell? ⟨b,0,none⟩=some (.bool true)/\W.cell? ⟨b,1,none⟩=some (.slice y.ca y.l.length y.cc)/\W.cell? ⟨b,2,none⟩=some (.int .i64 nx)):=fun W a b=>⟨a.cell 1,b.cell 0,b.cell 1,b.cell 2⟩
     refine bB 9 (fun W=>W.cell? ⟨p,1,none⟩=some (.slice A1 l1.length c1)/\W.cell? ⟨b,0,none⟩=some (.bool true)/\W.cell? ⟨b,1,none⟩=some (.slice y.ca y.l.length y.cc)/\W.cell? ⟨b,2,none⟩=some (.int .i64 nx)) (kS _ hCz.blk hLb) (fun hHeld hTl=>?_);refine ae 0 hTl hHeld (fun hTl=>?_)
     try simp only [pT]
     refine ae 1 hTl hHeld (fun hTl=>?_)
     try simp only [pT]
     refine ae 2 hTl hHeld (fun hTl=>?_)
     try simp only [pT]
     refine ae 3 hTl hHeld (fun hTl=>?_)
     try simp only [pT]
     refine ae 4 hTl hHeld (fun hTl=>?_)
     try simp only [pT]
     refine ae 5 hTl hHeld (fun hTl=>?_)
     try simp only [pT]
     refine ae 6 hTl hHeld (fun hTl=>?_)
     try simp only [pT]
     clear hTl;refine aA 7 (fun K hK=>?_);go_simp;refine hK.out _ _ (fun _=>kS _ ((hCz.blk.drew).alloc _) ((hLb.drew).alloc _)) ?_;clear hK K
     try simp only [pT]
     have hbu:Below W.heap.size W (W.drew.alloc (.cells #[.bool true,.slice y.ca y.l.length y.cc,.int .i64 nx] 115)):=((bR _ W).drew).alloc (nR _) _
     have hr6:Reads (W.drew.alloc (.cells #[.bool true,.slice y.ca y.l.length y.cc,.int .i64 nx] 115)) (W.heap.size+1) 3 (some ⟨W.heap.size,0,none⟩) 1 (fu [⟨true,y.ca,y.l,y.cc,nx⟩]):=by
      have:=fy (aa.new W.drew 115 #[.bool true,.slice y.ca y.l.length y.cc,.int .i64 nx]) (size:=3) rfl
      simpa [fu,LX.vals] using this
     have h7:=fun (wv:World) (hg7:World.grownBy (W.drew.alloc (.cells #[.bool true,.slice y.ca y.l.length y.cc,.int .i64 nx] 115)) wv (.slice A1 l1.length c1:Value).ownBlock)=>kS wv ((aW hg7 (hCz.below hbu).blk.lt (hCz.below hbu).rows.sep).trans (hCz.below hbu).blk) ((aW hg7 ((hLb.drew).alloc (.cells #[.bool true,.slice y.ca y.l.length y.cc,.int .i64 nx] 115)).lt (fun ad e hh=>hlow ad e (by omega))).trans ((hLb.drew).alloc _));refine aA 8 (fun K hK=>?_);refine jC IL rfl rfl B rfl (hCz.below hbu).rows.row rfl hr6 (mw _) (by omega) (nT (Nat.le_of_lt (Nat.lt_of_le_of_lt hpB hCz.blk.lt)) hbu.size) (k:=(l1++[(⟨true,y.ca,y.l,y.cc,nx⟩:LX)]).length) (by simp) (eT _ _) ?_;intro A7 c7 wv ho7 hg7 hob7;refine hK.out _ _ (fun _=>h7 _ hg7) ?_;clear hK K
     try simp only [pT]
     have c17:=(h7 _ hg7).1;have f17:wv.frozen? ⟨p,1,none⟩=false:=aa.frozen (cs:=#[.pointer (some ⟨T,0,none⟩),.slice A1 l1.length c1,.slice kA s1.last.length kc,.bool s1.any,.int .i64 (s1.pages+1:Nat),.bool s1.done]) (t:=81) ((aW hg7 (hCz.below hbu).blk.lt (hCz.below hbu).rows.sep).trans (hCz.below hbu).blk) 1;clear kS h7;refine az 9 (fun K hK=>?_);go_simp;refine hK.out _ _ ?_;clear hK K
     try simp only [pT]
     refine az 10 (fun K hK=>?_);go_simp;refine hK.out _ _ ?_;clear hK K
     try simp only [pT]
     refine az 11 (fun K hK=>?_);go_simp;refine hK.out _ _ ?_;clear hK K
     try simp only [pT]
     refine az 12 (fun K hK=>?_);go_simp;refine hK.out _ _ ?_;clear hK K
     try simp only [pT]
     refine cW ?_ _;obtain ⟨hC8,hAR8,hF8⟩:=hCz.push hbu hg7 ho7 hob7 XLO XDI (by rw [<-HHE.out.1.cur.len];exact HPG.out.1.2.1);have hbz8:=hbz.trans (hbu.mono hbz.size)
     go_wp2_with fail
     go_ret;obtain ⟨hE,hD,hAR,hF⟩:=HHE.out;rw [hD];unfold bm;rw [hpw];simp only;rw [if_pos (by rw [<-hkx];exact hk3)]
     have hF9:=(hF.rw hAR ((Fr.rwp hF3).trans ((Fr.of_below hbz8).trans hF8)))
     rw [lQ,List.length_singleton] at hF9 hC8
     have e9:(LX.sl ⟨true,y.ca,y.l,y.cc,nx⟩:SL)=⟨true,x.cells,nx⟩:=by rw [hcs];rfl
     rw [<-HNE.out,<-e9];exact ⟨⟨rfl,A7,c7,_,hC8,hAR.trans hAR8 (nT hF.size (nT hF3.size hbz8.size))⟩,hF9⟩
    | false =>
     have hk2:y.kind=2:=by
      rcases HPG.out.1.2.2.2 with h | h
      ·rw [<-hkx] at h;rw [h] at hbb
       cases hbb
      ·rw [hkx];exact h
     obtain ⟨kk,rfl,hkl2,hkk2⟩:∃ kk:Nat,nx=(kk:Int)/\kk<y.l.length/\ju x.cells key=kk:=by
      have hu:=sG y.kind y.l key HPG.out.2.2.2.2
      have h9:iL y.kind (y.l.map CX.c) key=(ju (y.l.map CX.c) key:Int):=by rw [hk2];rfl
      exact ⟨ju (y.l.map CX.c) key,by rw [<-HNX.out];exact h9,by have:=(hu.2.2 hk2).2;omega,by rw [hcs]⟩
     obtain ⟨z,hz⟩:∃ z,y.l[kk]?=some z:=⟨_,gE hkl2⟩
     obtain ⟨g,o,hga,hgl,hgc⟩:=hyz.cells.at_ (by omega);have hck:=(hgc kk z hz).2.2.2.2;have hzk:z.c.kid<4294967296:=(hyz.fit z (mG hz)).2;rw [hga] at hLb;have c0:W.cell? ⟨b,0,none⟩=some (.bool false):=hLb.cell 0;have c1x:W.cell? ⟨b,1,none⟩=some (.slice (some ⟨g,o,none⟩) y.l.length y.cc):=hLb.cell 1;have c2x:W.cell? ⟨b,2,none⟩=some (.int .i64 (kk:Nat)):=hLb.cell 2;have f2x:W.frozen? ⟨b,2,none⟩=false:=hLb.frozen 2
     have i1:(0:Int)<=(kk:Int):=by omega
     have i2:(kk:Int)<(y.l.length:Int):=by omega
     have i3:((kk:Int)).toNat=kk:=by omega
     obtain ⟨n2,HN2⟩:∃ n2:Int,Hid ((kk:Int)-1=n2):=⟨_,lH rfl⟩
     have e2:IntKind.i64.wrap ((kk:Int)-1)=n2:=by rw [IntKind.wrap_i64];have:=HN2.out;omega
     have hLy:=hLb.set_ 2 (.int .i64 n2);have HK2:=lH (aI hk2 (aI hkk2 (aI hga hz)));clear hk2 hkk2 hz hgc;rw [hga]
     go_wp2_with fail
     clear hga
     obtain ⟨W2,hW2⟩:∃ W2,W.setCell ⟨b,2,none⟩ (.int .i64 n2)=W2:=⟨_,rfl⟩
     rw [hW2] at hLy ⊢
     have hby:Below w3.heap.size w3 W2:=by rw [<-hW2];exact hbz.setCell (p:=⟨b,2,none⟩) (by show w3.heap.size<=b;have:=hb4.size;omega) _
     have hLy:aa W2 b 115 #[.bool false,.slice (some ⟨g,o,none⟩) y.l.length y.cc,.int .i64 n2]:=hLy;have hCy:=HC3.out.below hby
     have XLO:LO (WZ Z B p A1) W2 ⟨false,some ⟨g,o,none⟩,y.l,y.cc,n2⟩:=⟨by have:=hco W2 hby;rw [HK2.out.2.2.1] at this;exact this,hmany,hyz.fit,by have:=HN2.out;show -1<=n2;omega,by have:=HN2.out;show n2<=(y.l.length:Int);omega⟩
     have XDI:qM 81 ⟨false,some ⟨g,o,none⟩,y.l,y.cc,n2⟩:=by
      have:=HN2.out;refine ⟨fun h9=>?_,fun h9=>?_⟩
      ·exact absurd h9 (by decide)
      ·show n2<(y.l.length:Int);omega
     clear hW2 c0 c1x c2x f2x hck
     have kS:∀ W,aa W p 81 #[.pointer (some ⟨T,0,none⟩),.slice A1 l1.length c1,.slice kA s1.last.length kc,.bool s1.any,.int .i64 (s1.pages+1:Nat),.bool s1.done]->aa W b 115 #[.bool false,.slice (some ⟨g,o,none⟩) y.l.length y.cc,.int .i64 n2]->(W.cell? ⟨p,1,none⟩=some (.slice A1 l1.length c1)/\W.cell? ⟨b,0,none⟩=some (.bool false)/\W.cell? ⟨b,1,none⟩=some (.slice (some ⟨g,o,none⟩) y.l.length y.cc)/\W.cell? ⟨b,2,none⟩=some (.int .i64 n2)):=fun W a b=>⟨a.cell 1,b.cell 0,b.cell 1,b.cell 2⟩
     refine bB 9 (fun W=>W.cell? ⟨p,1,none⟩=some (.slice A1 l1.length c1)/\W.cell? ⟨b,0,none⟩=some (.bool false)/\W.cell? ⟨b,1,none⟩=some (.slice (some ⟨g,o,none⟩) y.l.length y.cc)/\W.cell? ⟨b,2,none⟩=some (.int .i64 n2)) (kS _ hCy.blk hLy) (fun hHeld hTl=>?_);refine ae 0 hTl hHeld (fun hTl=>?_)
     try simp only [pT]
     refine ae 1 hTl hHeld (fun hTl=>?_)
     try simp only [pT]
     refine ae 2 hTl hHeld (fun hTl=>?_)
     try simp only [pT]
     refine ae 3 hTl hHeld (fun hTl=>?_)
     try simp only [pT]
     refine ae 4 hTl hHeld (fun hTl=>?_)
     try simp only [pT]
     refine ae 5 hTl hHeld (fun hTl=>?_)
     try simp only [pT]
     refine ae 6 hTl hHeld (fun hTl=>?_)
     try simp only [pT]
     clear hTl;refine aA 7 (fun K hK=>?_);go_simp;refine hK.out _ _ (fun _=>kS _ ((hCy.blk.drew).alloc _) ((hLy.drew).alloc _)) ?_;clear hK K
     try simp only [pT]
     have hbu:Below W2.heap.size W2 (W2.drew.alloc (.cells #[.bool false,.slice (some ⟨g,o,none⟩) y.l.length y.cc,.int .i64 n2] 115)):=((bR _ W2).drew).alloc (nR _) _
     have hr6:Reads (W2.drew.alloc (.cells #[.bool false,.slice (some ⟨g,o,none⟩) y.l.length y.cc,.int .i64 n2] 115)) (W2.heap.size+1) 3 (some ⟨W2.heap.size,0,none⟩) 1 (fu [⟨false,some ⟨g,o,none⟩,y.l,y.cc,n2⟩]):=by
      have:=fy (aa.new W2.drew 115 #[.bool false,.slice (some ⟨g,o,none⟩) y.l.length y.cc,.int .i64 n2]) (size:=3) rfl
      simpa [fu,LX.vals] using this
     have h7:=fun (wv:World) (hg7:World.grownBy (W2.drew.alloc (.cells #[.bool false,.slice (some ⟨g,o,none⟩) y.l.length y.cc,.int .i64 n2] 115)) wv (.slice A1 l1.length c1:Value).ownBlock)=>kS wv ((aW hg7 (hCy.below hbu).blk.lt (hCy.below hbu).rows.sep).trans (hCy.below hbu).blk) ((aW hg7 ((hLy.drew).alloc (.cells #[.bool false,.slice (some ⟨g,o,none⟩) y.l.length y.cc,.int .i64 n2] 115)).lt (fun ad e hh=>hlow ad e (by omega))).trans ((hLy.drew).alloc _));refine aA 8 (fun K hK=>?_);refine jC IL rfl rfl B rfl (hCy.below hbu).rows.row rfl hr6 (mw _) (by omega) (nT (Nat.le_of_lt (Nat.lt_of_le_of_lt hpB hCy.blk.lt)) hbu.size) (k:=(l1++[(⟨false,some ⟨g,o,none⟩,y.l,y.cc,n2⟩:LX)]).length) (by simp) (eT _ _) ?_;intro A7 c7 wv ho7 hg7 hob7;refine hK.out _ _ (fun _=>h7 _ hg7) ?_;clear hK K
     try simp only [pT]
     have c17:=(h7 _ hg7).1;have f17:wv.frozen? ⟨p,1,none⟩=false:=aa.frozen (cs:=#[.pointer (some ⟨T,0,none⟩),.slice A1 l1.length c1,.slice kA s1.last.length kc,.bool s1.any,.int .i64 (s1.pages+1:Nat),.bool s1.done]) (t:=81) ((aW hg7 (hCy.below hbu).blk.lt (hCy.below hbu).rows.sep).trans (hCy.below hbu).blk) 1;clear kS h7;refine az 9 (fun K hK=>?_);go_simp;refine hK.out _ _ ?_;clear hK K
     try simp only [pT]
     refine az 10 (fun K hK=>?_);go_simp;refine hK.out _ _ ?_;clear hK K
     try simp only [pT]
     refine az 11 (fun K hK=>?_);go_simp;refine hK.out _ _ ?_;clear hK K
     try simp only [pT]
     refine az 12 (fun K hK=>?_);go_simp;refine hK.out _ _ ?_;clear hK K
     try simp only [pT]
     refine cW ?_ _;obtain ⟨hC8,hAR8,hF8⟩:=hCy.push hbu hg7 ho7 hob7 XLO XDI (by rw [<-HHE.out.1.cur.len];exact HPG.out.1.2.1);have hby8:=hby.trans (hbu.mono hby.size)
     go_wp2_with fail
     obtain ⟨hE,hD,hAR,hF⟩:=HHE.out;have hFw:=(Fr.rwp (A:=A1) hF3).trans ((Fr.of_below hby8).trans hF8);rw [lQ,List.length_singleton] at hFw hC8
     have e9:(LX.sl ⟨false,some ⟨g,o,none⟩,y.l,y.cc,n2⟩:SL)=⟨false,x.cells,n2⟩:=by rw [hcs];rfl
     have hD2:bm t 21 s n key=bm t f (s1.push ⟨false,x.cells,n2⟩) z.c.kid key:=by
      rw [hD]
      conv=>lhs;unfold bm
      rw [hpw];simp only;rw [if_neg (by rw [<-hkx,HK2.out.1];decide),HK2.out.2.1,HN2.out,show sE x.cells kk=z.c.kid by rw [hcs];exact DF HK2.out.2.2.2]
     have hC9:CW Z 81 B p T (wv.setCell ⟨p,1,none⟩ (.slice A7 (l1.length+1) c7)) A7 c7 kA kc (l1++[⟨false,some ⟨g,o,none⟩,y.l,y.cc,n2⟩]) (s1.push ⟨false,x.cells,n2⟩):=by rw [<-e9];exact hC8
     have cz:=hC9.blk.cell 1;rw [lQ,List.length_singleton] at cz
     have hlt20:l1.length<20:=by rw [<-hE.cur.len];exact HPG.out.1.2.1
     go_roundw
     case rel=>exact ⟨l1++[(⟨false,some ⟨g,o,none⟩,y.l,y.cc,n2⟩:LX)],A7,c7,z.c.kid,f,s1.push ⟨false,x.cells,n2⟩,rfl,hzk,hE.next hFw hC9,hD2,by rw [lQ,List.length_singleton];omega,hAR.trans hAR8 (nT hF.size (nT hF3.size hby8.size)),hF.rw hAR hFw⟩
     case measure=>first | (rw [hmy];simp only [cz];simp;omega) | (simp [hmy,cz];omega))
theorem yB:∀ a b:List UInt8,(0<Lib.compareBytes a b)↔b<a
 | [],[]=>by simp [Lib.compareBytes]
 | [],_::_=>by simp [Lib.compareBytes]
 | _::_,[]=>by simp [Lib.compareBytes]
 | a::s,b::t=>by
  unfold Lib.compareBytes;by_cases h1:a<b
  ·rw [if_pos h1];constructor
   ·intro h;omega
   ·intro h
    rcases List.cons_lt_cons_iff.1 h with h2 | ⟨h2,_⟩
    ·exact absurd h2 (UInt8.lt_asymm h1)
    ·rw [h2] at h1;exact absurd h1 (UInt8.lt_irrefl _)
  ·rw [if_neg h1];by_cases h2:b<a
   ·rw [if_pos h2];exact ⟨fun _=>List.cons_lt_cons_iff.2 (.inl h2),fun _=>by omega⟩
   ·rw [if_neg h2,yB s t];have e:a=b:=UInt8.le_antisymm (UInt8.not_lt.1 h2) (UInt8.not_lt.1 h1);subst e;exact ⟨fun h=>List.cons_lt_cons_iff.2 (.inr ⟨rfl,h⟩),fun h=>(List.cons_lt_cons_iff.1 h).elim (fun h=>absurd h (UInt8.lt_irrefl _)) (fun h=>h.2)⟩
theorem uy:∀ a b:List UInt8,-1<=Lib.compareBytes a b/\Lib.compareBytes a b<=1
 | [],[]=>by simp [Lib.compareBytes]
 | [],_::_=>by simp [Lib.compareBytes]
 | _::_,[]=>by simp [Lib.compareBytes]
 | a::s,b::t=>by
  unfold Lib.compareBytes
  split
  ·omega
  ·split
   ·omega
   ·exact uy s t
theorem CW.rekey {Z:Nat->Prop} {ty B p T:Nat} {w w':World} {A:Option Addr} {cc:Nat} {kA:Option Addr} {kc:Nat} {l:List LX} {s:SW} (h:CW Z ty B p T w A cc kA kc l s) (hf:Fr (fun k=>k=p) w w') {A2:Option Addr} {k2:Key} {c2:Nat}
 (hB:aa w' p ty #[.pointer (some ⟨T,0,none⟩),.slice A l.length cc,.slice A2 k2.length c2,.bool true,.int .i64 (s.pages:Nat),.bool s.done]) (hk:Reads w w.heap.size 1 A2 k2.length (bl k2)) (hN:k2.length≠0->∀ ad,A2=some ad->¬ WZ Z B p A ad.block):CW Z ty B p T w' A cc A2 c2 l {s with any:=true,last:=k2} :=
 ⟨hB,h.lo,h.rows.frp hf,ax hk hf (fun h0 ad e hh=>hN h0 ad e (.inr (.inl hh))),hN,h.way,h.few,h.pg,h.dir,fun k hk=>lT (h.zlt k hk) hf.size⟩
def ot (kA:Option Addr) (kl kc:Nat) (vA:Option Addr) (vl vc:Nat):Value:=.agg #[.slice kA kl kc,.slice vA vl vc]
def zeroV:Value:=ot none 0 0 none 0 0
def uz (Z:Nat->Prop) (ty B p T:Nat) (w:World) (A:Option Addr) (cc:Nat) (l:List LX) (r:Except Int (eS × SW)) (e:Ending) (w':World):Prop:=(match r with
 | .error k=>∃ v cs,e=.returned (.tuple #[zeroV,v])/\k≠0/\dX w.heap.size w' k v/\aa w' p ty cs/\cs.size=6
 | .ok ((key,val),s')=>∃ kA kc vA vc,e=.returned (.tuple #[ot kA key.length kc vA val.length vc,.nilIface])/\CW Z ty B p T w' A cc kA kc l s'/\s'.last=key/\Reads w' w'.heap.size 1 vA val.length (bl val)/\(val.length≠0->∀ ad,vA=some ad->¬ WZ Z B p A ad.block))/\Fr (RW p A) w w'
theorem yC {Z:Nat->Prop} {B p T M:Nat} {X:Nat->Prop} {w:World} {t:PT} {A:Option Addr} {cc:Nat} {kA:Option Addr} {kc:Nat} {l:List LX} {s:SW} (h:aR Z 75 B p T M X w t A cc kA kc l s) (y:CX) (hk:Reads w w.heap.size 1 y.ka y.c.key.length (bl y.c.key)) (hkN:y.c.key.length≠0->∀ ad,y.ka=some ad->¬ WZ Z B p A ad.block) (hv:Reads w w.heap.size 1 y.va y.c.val.length (bl y.c.val)) (hvN:y.c.val.length≠0->∀ ad,y.va=some ad->¬ WZ Z B p A ad.block) (hf:y.c.fit) :
 Calls Tryz.prog 49 #[.pointer (some ⟨p,0,none⟩),y.val,.int .i64 1] w fun e w'=>uz Z 75 B p T w A cc l (eD t s y.c) e w':=by
 obtain ⟨w1,hw1⟩:∃ w1,w1=w.alloc (.cells #[.slice y.ka y.c.key.length y.kc,.int .i64 y.c.size,.slice y.va y.c.val.length y.vc,.int .u32 (y.c.over:Nat),.int .u32 (y.c.kid:Nat)] 117):=⟨_,rfl⟩
 obtain ⟨w2,hw2⟩:∃ w2,w2=w1.alloc (.cells #[.slice none 0 0,.slice none 0 0] 41):=⟨_,rfl⟩
 have hb1:Below w.heap.size w w1:=by rw [hw1];exact (bR _ w).alloc (nR _) _
 have hb2:Below w.heap.size w w2:=by rw [hw2];exact hb1.alloc hb1.size _
 have hs1:w1.heap.size=w.heap.size+1:=by rw [hw1];simp
 have hY2:aa w2 w.heap.size 117 #[.slice y.ka y.c.key.length y.kc,.int .i64 y.c.size,.slice y.va y.c.val.length y.vc,.int .u32 (y.c.over:Nat),.int .u32 (y.c.kid:Nat)]:=by rw [hw2];exact aa.alloc (by rw [hw1];exact aa.new _ _ _) _
 have hE2:aa w2 (w.heap.size+1) 41 #[.slice none 0 0,.slice none 0 0]:=by rw [hw2,<-hs1];exact aa.new _ _ _
 have hA2:=h.next (Fr.of_below hb2) (h.cur.below hb2);have hP2:=hA2.cur.blk;have hpl:=h.cur.blk.lt;have HW2:Hid (w2=(w.alloc (.cells #[.slice y.ka y.c.key.length y.kc,.int .i64 y.c.size,.slice y.va y.c.val.length y.vc,.int .u32 (y.c.over:Nat),.int .u32 (y.c.kid:Nat)] 117)).alloc (.cells #[.slice none 0 0,.slice none 0 0] 41)):=lH (by rw [hw2,hw1]);have c3x:w2.cell? ⟨p,3,none⟩=some (.bool s.any):=hP2.cell 3;have c2x:w2.cell? ⟨p,2,none⟩=some (.slice kA s.last.length kc):=hP2.cell 2;have y0:w2.cell? ⟨w.heap.size,0,none⟩=some (.slice y.ka y.c.key.length y.kc):=hY2.cell 0;have hb0:Below w2.heap.size w2 w2:=bR _ _;have HC:Hid (∀ W,Below w2.heap.size w2 W->_):=lH fun W hW=>dJ y.kc kc W (hk.below (hb2.trans (hW.mono hb2.size))) (hA2.cur.key.below hW)
 obtain ⟨r,HR⟩:∃ r,Hid (Lib.compareBytes y.c.key s.last=r):=⟨_,lH rfl⟩
 rw [HR.out] at HC;have hr:=uy y.c.key s.last;rw [HR.out] at hr
 have e1:IntKind.i64.wrap r=r:=by rw [IntKind.wrap_i64];omega
 have e2:IntKind.i64.wrap (-r)=-r:=by rw [IntKind.wrap_i64];omega
 have HI:=lH (aI h (aI hk (aI hkN (aI hv (aI hvN hf)))));have HJ:=lH (aI hb2 (aI hY2 (aI hE2 hA2)));clear h hk hkN hv hvN hw1 hw2 hb1 hb2 hs1 hY2 hE2 hA2 hP2
 obtain ⟨R,HRR⟩:∃ R,Hid (eD t s y.c=R):=⟨_,lH rfl⟩
 rw [HRR.out];unfold CX.val cellV;by_cases hbad:s.any=true/\¬ s.last<y.c.key
 ·have HBAD:=lH hbad
  have hle:r<=0:=by
   have:=hbad.2;rw [<-yB y.c.key s.last,HR.out] at this;omega
  have d1:decide (r<=0)=true:=dT hle;rw [hbad.1] at c3x;clear hbad;go_enter Tryz.func49,Tryz.ntmps49
  go_wp2_with fail
  rw [<-HW2.out]
  go_quiet (first | (go_at_call 27;exact Calls.quiet_of_same (HC.out _ (below_drewN hb0 _))))
  have hE9:aa (w2.drewN nq) (w.heap.size+1) 41 #[.slice none 0 0,.slice none 0 0]:=HJ.out.2.2.1;have hP9:=(HJ.out.2.2.2.cur.below (below_drewN hb0 nq)).blk
  go_wp2_with (refine wpList_store_row rfl 41 _ _ rfl (w.heap.size+1) _ rfl rfl 41 _ hE9 (by kernel_rfl) rfl (by simp [Value.oneCell']) ?_)
  refine bodyPost_ret (rT rfl _ _ (w.heap.size+1) 41 _ (0,0) _ rfl (setRow_heap _ _ _ _ _ _ hE9) Tryz.underlying41 rfl (by kernel_rfl)) rfl ?_;have hb9:=below_drewN HJ.out.1 nq
  have hR9:R=.error 111:=by rw [<-HRR.out];unfold eD;rw [if_pos HBAD.out]
  rw [hR9];exact ⟨⟨_,_,rfl,by decide,.inr (.inl ⟨by decide,rfl⟩),hP9.fr (fS _ _ _) (fun e=>by have e:p=w.heap.size+1:=e;omega),rfl⟩,(Fr.of_below hb9).late (fS _ (w.heap.size+1) _) (fun k hk e=>by have e:k=w.heap.size+1:=e;omega)⟩
 ·have HBAD:=lH hbad
  have hq:s.any=false\/(s.any=true/\decide (r<=0)=false):=by
   cases ha:s.any with
   | false=>exact .inl rfl
   | true =>
    refine .inr ⟨rfl,dF fun h9=>hbad ⟨ha,?_⟩⟩;rw [<-yB y.c.key s.last,HR.out];omega
  clear hbad;go_enter Tryz.func49,Tryz.ntmps49
  go_wp2_with fail
  rw [<-HW2.out]
  rcases hq with hq | ⟨hq,d1⟩
  rw [hq] at c3x
  go_quiet (fail)
  rotate_left;rw [hq] at c3x
  go_quiet (first | (go_at_call 27;exact Calls.quiet_of_same (HC.out _ (below_drewN hb0 _))))
  all_goals (
   obtain ⟨hb2,hY2,hE2,hA2⟩:=HJ.out
   obtain ⟨W0,hW0⟩:∃ W0,w2.drewN nq=W0:=⟨_,rfl⟩
   have hb20:Below w2.heap.size w2 W0:=by rw [<-hW0];exact below_drewN hb0 nq
   rw [hW0];have hA0:=hA2.next (Fr.of_below hb20) (hA2.cur.below hb20);have hY0:=hY2.below hb20 hY2.lt;have hE0:=hE2.below hb20 hE2.lt;have hP0:=hA0.cur.blk;have k3:W0.cell? ⟨p,3,none⟩=some (.bool s.any):=hP0.cell 3;have f3:W0.frozen? ⟨p,3,none⟩=false:=hP0.frozen 3;have hP1:aa (W0.setCell ⟨p,3,none⟩ (.bool true)).drew p 75 _:=(hP0.drew).set_ 3 (.bool true);have k2:(W0.setCell ⟨p,3,none⟩ (.bool true)).drew.cell? ⟨p,2,none⟩=some (.slice kA s.last.length kc):=hP1.cell 2;have f2:(W0.setCell ⟨p,3,none⟩ (.bool true)).drew.frozen? ⟨p,2,none⟩=false:=hP1.frozen 2;have hY1:aa (W0.setCell ⟨p,3,none⟩ (.bool true)).drew w.heap.size 117 _:=(hY0.drew).far (by show w.heap.size≠p;omega) _;have hP3:aa (((W0.setCell ⟨p,3,none⟩ (.bool true)).setCell ⟨p,2,none⟩ (.slice y.ka y.c.key.length y.kc)).drew) p 75 #[.pointer (some ⟨T,0,none⟩),.slice A l.length cc,.slice y.ka y.c.key.length y.kc,.bool true,.int .i64 (s.pages:Nat),.bool s.done]:=hP1.set_ 2 (.slice y.ka y.c.key.length y.kc);have hY3:aa (((W0.setCell ⟨p,3,none⟩ (.bool true)).setCell ⟨p,2,none⟩ (.slice y.ka y.c.key.length y.kc)).drew) w.heap.size 117 #[.slice y.ka y.c.key.length y.kc,.int .i64 y.c.size,.slice y.va y.c.val.length y.vc,.int .u32 (y.c.over:Nat),.int .u32 (y.c.kid:Nat)]:=hY1.far (p:=⟨p,2,none⟩) (by show w.heap.size≠p;omega) (.slice y.ka y.c.key.length y.kc);have hE3:aa (((W0.setCell ⟨p,3,none⟩ (.bool true)).setCell ⟨p,2,none⟩ (.slice y.ka y.c.key.length y.kc)).drew) (w.heap.size+1) 41 #[.slice none 0 0,.slice none 0 0]:=((hE0.drew).far (p:=⟨p,3,none⟩) (by show w.heap.size+1≠p;omega) (.bool true)).far (p:=⟨p,2,none⟩) (by show w.heap.size+1≠p;omega) (.slice y.ka y.c.key.length y.kc);have hF3:Fr (fun k=>k=p) W0 (((W0.setCell ⟨p,3,none⟩ (.bool true)).setCell ⟨p,2,none⟩ (.slice y.ka y.c.key.length y.kc)).drew):=((Fr.refl (fun k=>k=p) W0).drew.trans (aT (X:=fun k=>k=p) rfl)).trans (aT (X:=fun k=>k=p) rfl);have hbW:=hb2.trans (hb20.mono hb2.size);have hC3:=HI.out.1.cur.rekey (c2:=y.kc) ((Fr.of_below hbW).trans hF3) hP3 HI.out.2.1 HI.out.2.2.1;have hA3:=hA0.next (Fr.rwp hF3) hC3;have hF03:Fr (fun k=>k=p) w (((W0.setCell ⟨p,3,none⟩ (.bool true)).setCell ⟨p,2,none⟩ (.slice y.ka y.c.key.length y.kc)).drew):=(Fr.of_below hbW).trans hF3;have HS:=lH (aI hA3 (aI hF03 hE3));have y0c:W0.drew.cell? ⟨w.heap.size,0,none⟩=some (.slice y.ka y.c.key.length y.kc):=hY0.cell 0;clear hb2 hY2 hE2 hA2 hb20 hA0 hE0 hP0 hP3 hE3 hC3 hA3 hF3 hF03 hbW
   go_wp2_with fail
   refine bB 7 (fun W=>W.cell? ⟨w.heap.size,0,none⟩=some (.slice y.ka y.c.key.length y.kc)) (y0c) (fun hHeld hTl=>?_);refine ae 0 hTl hHeld (fun hTl=>?_)
   try simp only [pT]
   refine ae 1 hTl hHeld (fun hTl=>?_)
   try simp only [pT]
   refine ae 2 hTl hHeld (fun hTl=>?_)
   try simp only [pT]
   refine ae 3 hTl hHeld (fun hTl=>?_)
   try simp only [pT]
   refine ae 4 hTl hHeld (fun hTl=>?_)
   try simp only [pT]
   refine ae 5 hTl hHeld (fun hTl=>?_)
   try simp only [pT]
   clear hTl;refine aA 6 (fun K hK=>?_);go_simp;refine hK.out _ _ (fun _=>hY1.cell 0) ?_;clear hK K
   try simp only [pT]
   refine az 7 (fun K hK=>?_);go_simp;refine hK.out _ _ ?_;clear hK K
   try simp only [pT]
   refine az 8 (fun K hK=>?_);go_simp;refine hK.out _ _ ?_;clear hK K
   try simp only [pT]
   refine az 9 (fun K hK=>?_);go_simp;refine hK.out _ _ ?_;clear hK K
   try simp only [pT]
   refine cW ?_ _
   obtain ⟨W3,hW3⟩:∃ W3,((W0.setCell ⟨p,3,none⟩ (.bool true)).setCell ⟨p,2,none⟩ (.slice y.ka y.c.key.length y.kc)).drew=W3:=⟨_,rfl⟩
   rw [hW3] at HS hY3 ⊢;have hY3:aa W3 w.heap.size 117 #[.slice y.ka y.c.key.length y.kc,.int .i64 y.c.size,.slice y.va y.c.val.length y.vc,.int .u32 (y.c.over:Nat),.int .u32 (y.c.kid:Nat)]:=hY3;have x0:W3.cell? ⟨w.heap.size,0,none⟩=some (.slice y.ka y.c.key.length y.kc):=hY3.cell 0;have x1:W3.cell? ⟨w.heap.size,1,none⟩=some (.int .i64 y.c.size):=hY3.cell 1;have x2:W3.cell? ⟨w.heap.size,2,none⟩=some (.slice y.va y.c.val.length y.vc):=hY3.cell 2;have x3:W3.cell? ⟨w.heap.size,3,none⟩=some (.int .u32 (y.c.over:Nat)):=hY3.cell 3;have xp:W3.cell? ⟨p,0,none⟩=some (.pointer (some ⟨T,0,none⟩)):=HS.out.1.cur.blk.cell 0;clear hW3 k2 k3 f2 f3 hP1 hY0 hY1 y0c;have hsW:w.heap.size<=W3.heap.size:=HS.out.2.1.size;by_cases hs:y.c.size<=40
   ·have d4:decide (y.c.size<=(40:Int))=true:=dT hs;have d5:decide ((40:Int)<y.c.size)=false:=dF (by omega);have hE3:aa W3 (w.heap.size+1) 41 #[.slice none 0 0,.slice none 0 0]:=HS.out.2.2
    go_wp2_with (refine wpList_store_row rfl 41 _ _ rfl (w.heap.size+1) _ rfl rfl 41 _ hE3 (by kernel_rfl) rfl (by simp [Value.oneCell']) ?_)
    refine bodyPost_ret (rT rfl _ _ (w.heap.size+1) 41 _ (0,0) _ rfl (setRow_heap _ _ _ _ _ _ hE3) Tryz.underlying41 rfl (by kernel_rfl)) rfl ?_;have hfr:∀ cs,Fr (fun k=>k=p) w (W3.setRow (w.heap.size+1) cs):=fun cs=>HS.out.2.1.late (fS _ (w.heap.size+1) _) (fun k hk e=>by have e:k=w.heap.size+1:=e;omega)
    have hv0:cV t y.c=.ok y.c.val:=by unfold cV;rw [if_pos hs]
    have hR9:R=.ok ((y.c.key,y.c.val),{s with any:=true,last:=y.c.key}):=by rw [<-HRR.out];unfold eD;rw [if_neg HBAD.out,hv0]
    rw [hR9];exact ⟨⟨y.ka,y.kc,y.va,y.vc,rfl,HI.out.1.cur.rekey (hfr _) (HS.out.1.cur.blk.fr (fS _ _ _) (fun e=>by have e:p=w.heap.size+1:=e;omega)) HI.out.2.1 HI.out.2.2.1,rfl,ax HI.out.2.2.2.1 (hfr _) (fun h0 ad e hh=>HI.out.2.2.2.2.1 h0 ad e (.inr (.inl hh))),HI.out.2.2.2.2.1⟩,Fr.rwp (hfr _)⟩
   ·have d4:decide (y.c.size<=(40:Int))=false:=dF hs;have d5:decide ((40:Int)<y.c.size)=true:=dT (by omega)
    go_wp2_with fail
    have hRd:=wx (w:=W3.drew) (HS.out.1.tx.keep (co.of_below ((bR _ W3).drew))) (fun k hk=>lT (HS.out.1.xl k hk) (nT (nT HI.out.1.cur.lo (Nat.le_of_lt hpl)) hsW)) HS.out.1.ok HS.out.1.g HS.out.1.pow y.c.over HI.out.2.2.2.2.2.1 y.c.size
    cases hr9:lw t y.c.over y.c.size with
    | ok rd =>
     have hv0:cV t y.c=.ok rd.2:=by unfold cV;rw [if_neg (by omega),hr9]
     rw [hr9] at hRd;refine bB 13 (fun W=>W.cell? ⟨w.heap.size,1,none⟩=some (.int .i64 y.c.size)/\W.cell? ⟨w.heap.size,3,none⟩=some (.int .u32 (y.c.over:Nat))/\W.cell? ⟨p,0,none⟩=some (.pointer (some ⟨T,0,none⟩))) (⟨x1,x3,xp⟩) (fun hHeld hTl=>?_);refine ae 0 hTl hHeld (fun hTl=>?_)
     try simp only [pT]
     refine ae 1 hTl hHeld (fun hTl=>?_)
     try simp only [pT]
     refine ae 2 hTl hHeld (fun hTl=>?_)
     try simp only [pT]
     refine ae 3 hTl hHeld (fun hTl=>?_)
     try simp only [pT]
     refine ae 4 hTl hHeld (fun hTl=>?_)
     try simp only [pT]
     refine ae 5 hTl hHeld (fun hTl=>?_)
     try simp only [pT]
     refine ae 6 hTl hHeld (fun hTl=>?_)
     try simp only [pT]
     refine ae 7 hTl hHeld (fun hTl=>?_)
     try simp only [pT]
     have hTl2:=hTl.step 8 (by kernel_rfl) (by decide);clear hTl;refine sP 8 hRd ?_
     rintro e W5 ⟨⟨A5,c5,rfl,ho5⟩,hb5⟩;have hb5:Below W3.heap.size W3 W5:=((bR _ W3).drew).trans hb5;have hY5:=hY3.below hb5 hY3.lt;have xp5:=(hb5.cell (p:=⟨p,0,none⟩) HS.out.1.cur.blk.lt).trans xp;have hHeld:W5.cell? ⟨w.heap.size,1,none⟩=some (.int .i64 y.c.size)/\W5.cell? ⟨w.heap.size,3,none⟩=some (.int .u32 (y.c.over:Nat))/\W5.cell? ⟨p,0,none⟩=some (.pointer (some ⟨T,0,none⟩)):=⟨hY5.cell 1,hY5.cell 3,xp5⟩;have hrow:=ho5
     refine ⟨_,rfl,(fun _=>hHeld),?_⟩
     try simp only [pT]
     have hTl:=hTl2;clear hTl2;refine ae 9 hTl hHeld (fun hTl=>?_)
     try simp only [pT]
     refine ae 10 hTl hHeld (fun hTl=>?_)
     try simp only [pT]
     refine ae 11 hTl hHeld (fun hTl=>?_)
     try simp only [pT]
     refine ae 12 hTl hHeld (fun hTl=>?_)
     try simp only [pT]
     clear hTl;refine az 13 (fun K hK=>?_);go_simp;refine hK.out _ _ ?_;clear hK K
     try simp only [pT]
     refine cW ?_ _;have hE5:aa W5 (w.heap.size+1) 41 #[.slice none 0 0,.slice none 0 0]:=HS.out.2.2.below hb5 HS.out.2.2.lt;have hP5:=(HS.out.1.cur.below hb5).blk;have z0:W5.cell? ⟨w.heap.size,0,none⟩=some (.slice y.ka y.c.key.length y.kc):=hY5.cell 0;have hfr:∀ cs,Fr (fun k=>k=p) w (W5.setRow (w.heap.size+1) cs):=fun cs=>(HS.out.2.1.trans (Fr.of_below hb5)).late (fS _ (w.heap.size+1) _) (fun k hk e=>by have e:k=w.heap.size+1:=e;omega)
     go_wp2_with (refine wpList_store_row rfl 41 _ _ rfl (w.heap.size+1) _ rfl rfl 41 _ hE5 (by kernel_rfl) rfl (by simp [Value.oneCell']) ?_)
     refine bodyPost_ret (rT rfl _ _ (w.heap.size+1) 41 _ (0,0) _ rfl (setRow_heap _ _ _ _ _ _ hE5) Tryz.underlying41 rfl (by kernel_rfl)) rfl ?_
     have hR9:R=.ok ((y.c.key,rd.2),{s with any:=true,last:=y.c.key}):=by rw [<-HRR.out];unfold eD;rw [if_neg HBAD.out,hv0]
     rw [hR9]
     have hA5:∀ ad,A5=some ad->W3.heap.size<=ad.block:=fun ad e=>by
      rcases hrow.2 with ⟨h0,_⟩ | ⟨g,cap,cur,e1,e2,e3,_⟩
      ·rw [e] at h0;cases h0
      ·rw [e] at e1;have e1:=(Value.slice.injEq .. ▸ e1:some ad=_/\_).1
       cases e1
       exact e2
     have hfar:=HI.out.1.cur.rows.far HI.out.1.cur.zlt hpl HI.out.1.cur.lo;have hsg:w.heap.size+1<W3.heap.size:=HS.out.2.2.lt;exact ⟨⟨y.ka,y.kc,A5,c5,rfl,HI.out.1.cur.rekey (hfr _) (hP5.fr (fS _ _ _) (fun e=>by have e:p=w.heap.size+1:=e;omega)) HI.out.2.1 HI.out.2.2.1,rfl,ax (Reads.of_own hrow) (fS _ (w.heap.size+1) _) (fun _ ad e hh=>by have hh:ad.block=w.heap.size+1:=hh;have:=hA5 ad e;omega),fun _ ad e hh=>by have:=hfar _ hh;have:=hA5 ad e;omega⟩,Fr.rwp (hfr _)⟩
    | error k9 =>
     have hv0:cV t y.c=.error k9:=by unfold cV;rw [if_neg (by omega),hr9]
     rw [hr9] at hRd;refine bB 13 (fun W=>W.cell? ⟨w.heap.size,1,none⟩=some (.int .i64 y.c.size)/\W.cell? ⟨w.heap.size,3,none⟩=some (.int .u32 (y.c.over:Nat))/\W.cell? ⟨p,0,none⟩=some (.pointer (some ⟨T,0,none⟩))) (⟨x1,x3,xp⟩) (fun hHeld hTl=>?_);refine ae 0 hTl hHeld (fun hTl=>?_)
     try simp only [pT]
     refine ae 1 hTl hHeld (fun hTl=>?_)
     try simp only [pT]
     refine ae 2 hTl hHeld (fun hTl=>?_)
     try simp only [pT]
     refine ae 3 hTl hHeld (fun hTl=>?_)
     try simp only [pT]
     refine ae 4 hTl hHeld (fun hTl=>?_)
     try simp only [pT]
     refine ae 5 hTl hHeld (fun hTl=>?_)
     try simp only [pT]
     refine ae 6 hTl hHeld (fun hTl=>?_)
     try simp only [pT]
     refine ae 7 hTl hHeld (fun hTl=>?_)
     try simp only [pT]
     have hTl2:=hTl.step 8 (by kernel_rfl) (by decide);clear hTl;refine sP 8 hRd ?_
     rintro e W5 ⟨⟨v9,rfl,hv9,hk9⟩,hb5⟩;have hb5:Below W3.heap.size W3 W5:=((bR _ W3).drew).trans hb5;have hY5:=hY3.below hb5 hY3.lt;have xp5:=(hb5.cell (p:=⟨p,0,none⟩) HS.out.1.cur.blk.lt).trans xp;have hHeld:W5.cell? ⟨w.heap.size,1,none⟩=some (.int .i64 y.c.size)/\W5.cell? ⟨w.heap.size,3,none⟩=some (.int .u32 (y.c.over:Nat))/\W5.cell? ⟨p,0,none⟩=some (.pointer (some ⟨T,0,none⟩)):=⟨hY5.cell 1,hY5.cell 3,xp5⟩;have hvv:∃ tv pe,v9=.iface tv pe:=(by rcases hv9 with ⟨h9,_⟩ | ⟨_,e9⟩ | ⟨_,r,op,nm,e9,_⟩;exact absurd h9 hk9;exact ⟨_,_,e9⟩;exact ⟨_,_,e9⟩);obtain ⟨tv,pe,rfl⟩:=hvv
     refine ⟨_,rfl,(fun _=>hHeld),?_⟩
     try simp only [pT]
     have hTl:=hTl2;clear hTl2;refine ae 9 hTl hHeld (fun hTl=>?_)
     try simp only [pT]
     refine ae 10 hTl hHeld (fun hTl=>?_)
     try simp only [pT]
     refine ae 11 hTl hHeld (fun hTl=>?_)
     try simp only [pT]
     refine ae 12 hTl hHeld (fun hTl=>?_)
     try simp only [pT]
     clear hTl;refine az 13 (fun K hK=>?_);go_simp;refine hK.out _ _ ?_;clear hK K
     try simp only [pT]
     refine cW ?_ _;have hE5:aa W5 (w.heap.size+1) 41 #[.slice none 0 0,.slice none 0 0]:=HS.out.2.2.below hb5 HS.out.2.2.lt;have hP5:=(HS.out.1.cur.below hb5).blk;have z0:W5.cell? ⟨w.heap.size,0,none⟩=some (.slice y.ka y.c.key.length y.kc):=hY5.cell 0;have hfr:∀ cs,Fr (fun k=>k=p) w (W5.setRow (w.heap.size+1) cs):=fun cs=>(HS.out.2.1.trans (Fr.of_below hb5)).late (fS _ (w.heap.size+1) _) (fun k hk e=>by have e:k=w.heap.size+1:=e;omega)
     go_wp2_with (refine wpList_store_row rfl 41 _ _ rfl (w.heap.size+1) _ rfl rfl 41 _ hE5 (by kernel_rfl) rfl (by simp [Value.oneCell']) ?_)
     refine bodyPost_ret (rT rfl _ _ (w.heap.size+1) 41 _ (0,0) _ rfl (setRow_heap _ _ _ _ _ _ hE5) Tryz.underlying41 rfl (by kernel_rfl)) rfl ?_
     have hR9:R=.error k9:=by rw [<-HRR.out];unfold eD;rw [if_neg HBAD.out,hv0]
     rw [hR9];have hsg:w.heap.size+1<W3.heap.size:=HS.out.2.2.lt
     exact ⟨⟨_,_,rfl,hk9,((hv9.fr (fS _ (w.heap.size+1) _) (fun r hr _ e=>by have e:r=w.heap.size+1:=e;have hr:W3.heap.size<=r:=hr;omega)).lo hsW),hP5.fr (fS _ _ _) (fun e=>by have e:p=w.heap.size+1:=e;omega),rfl⟩,Fr.rwp (hfr _)⟩)
theorem yD {Z:Nat->Prop} {B p T M:Nat} {X:Nat->Prop} {w:World} {t:PT} {A:Option Addr} {cc:Nat} {kA:Option Addr} {kc:Nat} {l:List LX} {s:SW} (h:aR Z 81 B p T M X w t A cc kA kc l s) (y:CX) (hk:Reads w w.heap.size 1 y.ka y.c.key.length (bl y.c.key)) (hkN:y.c.key.length≠0->∀ ad,y.ka=some ad->¬ WZ Z B p A ad.block) (hv:Reads w w.heap.size 1 y.va y.c.val.length (bl y.c.val)) (hvN:y.c.val.length≠0->∀ ad,y.va=some ad->¬ WZ Z B p A ad.block) (hf:y.c.fit) :
 Calls Tryz.prog 49 #[.pointer (some ⟨p,0,none⟩),y.val,.int .i64 (-1)] w fun e w'=>uz Z 81 B p T w A cc l (eE t s y.c) e w':=by
 obtain ⟨w1,hw1⟩:∃ w1,w1=w.alloc (.cells #[.slice y.ka y.c.key.length y.kc,.int .i64 y.c.size,.slice y.va y.c.val.length y.vc,.int .u32 (y.c.over:Nat),.int .u32 (y.c.kid:Nat)] 117):=⟨_,rfl⟩
 obtain ⟨w2,hw2⟩:∃ w2,w2=w1.alloc (.cells #[.slice none 0 0,.slice none 0 0] 41):=⟨_,rfl⟩
 have hb1:Below w.heap.size w w1:=by rw [hw1];exact (bR _ w).alloc (nR _) _
 have hb2:Below w.heap.size w w2:=by rw [hw2];exact hb1.alloc hb1.size _
 have hs1:w1.heap.size=w.heap.size+1:=by rw [hw1];simp
 have hY2:aa w2 w.heap.size 117 #[.slice y.ka y.c.key.length y.kc,.int .i64 y.c.size,.slice y.va y.c.val.length y.vc,.int .u32 (y.c.over:Nat),.int .u32 (y.c.kid:Nat)]:=by rw [hw2];exact aa.alloc (by rw [hw1];exact aa.new _ _ _) _
 have hE2:aa w2 (w.heap.size+1) 41 #[.slice none 0 0,.slice none 0 0]:=by rw [hw2,<-hs1];exact aa.new _ _ _
 have hA2:=h.next (Fr.of_below hb2) (h.cur.below hb2);have hP2:=hA2.cur.blk;have hpl:=h.cur.blk.lt;have HW2:Hid (w2=(w.alloc (.cells #[.slice y.ka y.c.key.length y.kc,.int .i64 y.c.size,.slice y.va y.c.val.length y.vc,.int .u32 (y.c.over:Nat),.int .u32 (y.c.kid:Nat)] 117)).alloc (.cells #[.slice none 0 0,.slice none 0 0] 41)):=lH (by rw [hw2,hw1]);have c3x:w2.cell? ⟨p,3,none⟩=some (.bool s.any):=hP2.cell 3;have c2x:w2.cell? ⟨p,2,none⟩=some (.slice kA s.last.length kc):=hP2.cell 2;have y0:w2.cell? ⟨w.heap.size,0,none⟩=some (.slice y.ka y.c.key.length y.kc):=hY2.cell 0;have hb0:Below w2.heap.size w2 w2:=bR _ _;have HC:Hid (∀ W,Below w2.heap.size w2 W->_):=lH fun W hW=>dJ y.kc kc W (hk.below (hb2.trans (hW.mono hb2.size))) (hA2.cur.key.below hW)
 obtain ⟨r,HR⟩:∃ r,Hid (Lib.compareBytes y.c.key s.last=r):=⟨_,lH rfl⟩
 rw [HR.out] at HC;have hr:=uy y.c.key s.last;rw [HR.out] at hr
 have e1:IntKind.i64.wrap r=r:=by rw [IntKind.wrap_i64];omega
 have e2:IntKind.i64.wrap (-r)=-r:=by rw [IntKind.wrap_i64];omega
 have HI:=lH (aI h (aI hk (aI hkN (aI hv (aI hvN hf)))));have HJ:=lH (aI hb2 (aI hY2 (aI hE2 hA2)));clear h hk hkN hv hvN hw1 hw2 hb1 hb2 hs1 hY2 hE2 hA2 hP2
 obtain ⟨R,HRR⟩:∃ R,Hid (eE t s y.c=R):=⟨_,lH rfl⟩
 rw [HRR.out];unfold CX.val cellV;by_cases hbad:s.any=true/\¬ y.c.key<s.last
 ·have HBAD:=lH hbad
  have hle:0<=r:=by
   have:=hbad.2;rw [<-i6 y.c.key s.last,HR.out] at this;omega
  have d1:decide (0<=r)=true:=dT hle;rw [hbad.1] at c3x;clear hbad;go_enter Tryz.func49,Tryz.ntmps49
  go_wp2_with fail
  rw [<-HW2.out]
  go_quiet (first | (go_at_call 27;exact Calls.quiet_of_same (HC.out _ (below_drewN hb0 _))))
  have hE9:aa (w2.drewN nq) (w.heap.size+1) 41 #[.slice none 0 0,.slice none 0 0]:=HJ.out.2.2.1;have hP9:=(HJ.out.2.2.2.cur.below (below_drewN hb0 nq)).blk
  go_wp2_with (refine wpList_store_row rfl 41 _ _ rfl (w.heap.size+1) _ rfl rfl 41 _ hE9 (by kernel_rfl) rfl (by simp [Value.oneCell']) ?_)
  refine bodyPost_ret (rT rfl _ _ (w.heap.size+1) 41 _ (0,0) _ rfl (setRow_heap _ _ _ _ _ _ hE9) Tryz.underlying41 rfl (by kernel_rfl)) rfl ?_;have hb9:=below_drewN HJ.out.1 nq
  have hR9:R=.error 111:=by rw [<-HRR.out];unfold eE;rw [if_pos HBAD.out]
  rw [hR9];exact ⟨⟨_,_,rfl,by decide,.inr (.inl ⟨by decide,rfl⟩),hP9.fr (fS _ _ _) (fun e=>by have e:p=w.heap.size+1:=e;omega),rfl⟩,(Fr.of_below hb9).late (fS _ (w.heap.size+1) _) (fun k hk e=>by have e:k=w.heap.size+1:=e;omega)⟩
 ·have HBAD:=lH hbad
  have hq:s.any=false\/(s.any=true/\decide (0<=r)=false):=by
   cases ha:s.any with
   | false=>exact .inl rfl
   | true =>
    refine .inr ⟨rfl,dF fun h9=>hbad ⟨ha,?_⟩⟩;rw [<-i6 y.c.key s.last,HR.out];omega
  clear hbad;go_enter Tryz.func49,Tryz.ntmps49
  go_wp2_with fail
  rw [<-HW2.out]
  rcases hq with hq | ⟨hq,d1⟩
  rw [hq] at c3x
  go_quiet (fail)
  rotate_left;rw [hq] at c3x
  go_quiet (first | (go_at_call 27;exact Calls.quiet_of_same (HC.out _ (below_drewN hb0 _))))
  all_goals (
   obtain ⟨hb2,hY2,hE2,hA2⟩:=HJ.out
   obtain ⟨W0,hW0⟩:∃ W0,w2.drewN nq=W0:=⟨_,rfl⟩
   have hb20:Below w2.heap.size w2 W0:=by rw [<-hW0];exact below_drewN hb0 nq
   rw [hW0];have hA0:=hA2.next (Fr.of_below hb20) (hA2.cur.below hb20);have hY0:=hY2.below hb20 hY2.lt;have hE0:=hE2.below hb20 hE2.lt;have hP0:=hA0.cur.blk;have k3:W0.cell? ⟨p,3,none⟩=some (.bool s.any):=hP0.cell 3;have f3:W0.frozen? ⟨p,3,none⟩=false:=hP0.frozen 3;have hP1:aa (W0.setCell ⟨p,3,none⟩ (.bool true)).drew p 81 _:=(hP0.drew).set_ 3 (.bool true);have k2:(W0.setCell ⟨p,3,none⟩ (.bool true)).drew.cell? ⟨p,2,none⟩=some (.slice kA s.last.length kc):=hP1.cell 2;have f2:(W0.setCell ⟨p,3,none⟩ (.bool true)).drew.frozen? ⟨p,2,none⟩=false:=hP1.frozen 2;have hY1:aa (W0.setCell ⟨p,3,none⟩ (.bool true)).drew w.heap.size 117 _:=(hY0.drew).far (by show w.heap.size≠p;omega) _;have hP3:aa (((W0.setCell ⟨p,3,none⟩ (.bool true)).setCell ⟨p,2,none⟩ (.slice y.ka y.c.key.length y.kc)).drew) p 81 #[.pointer (some ⟨T,0,none⟩),.slice A l.length cc,.slice y.ka y.c.key.length y.kc,.bool true,.int .i64 (s.pages:Nat),.bool s.done]:=hP1.set_ 2 (.slice y.ka y.c.key.length y.kc);have hY3:aa (((W0.setCell ⟨p,3,none⟩ (.bool true)).setCell ⟨p,2,none⟩ (.slice y.ka y.c.key.length y.kc)).drew) w.heap.size 117 #[.slice y.ka y.c.key.length y.kc,.int .i64 y.c.size,.slice y.va y.c.val.length y.vc,.int .u32 (y.c.over:Nat),.int .u32 (y.c.kid:Nat)]:=hY1.far (p:=⟨p,2,none⟩) (by show w.heap.size≠p;omega) (.slice y.ka y.c.key.length y.kc);have hE3:aa (((W0.setCell ⟨p,3,none⟩ (.bool true)).setCell ⟨p,2,none⟩ (.slice y.ka y.c.key.length y.kc)).drew) (w.heap.size+1) 41 #[.slice none 0 0,.slice none 0 0]:=((hE0.drew).far (p:=⟨p,3,none⟩) (by show w.heap.size+1≠p;omega) (.bool true)).far (p:=⟨p,2,none⟩) (by show w.heap.size+1≠p;omega) (.slice y.ka y.c.key.length y.kc);have hF3:Fr (fun k=>k=p) W0 (((W0.setCell ⟨p,3,none⟩ (.bool true)).setCell ⟨p,2,none⟩ (.slice y.ka y.c.key.length y.kc)).drew):=((Fr.refl (fun k=>k=p) W0).drew.trans (aT (X:=fun k=>k=p) rfl)).trans (aT (X:=fun k=>k=p) rfl);have hbW:=hb2.trans (hb20.mono hb2.size);have hC3:=HI.out.1.cur.rekey (c2:=y.kc) ((Fr.of_below hbW).trans hF3) hP3 HI.out.2.1 HI.out.2.2.1;have hA3:=hA0.next (Fr.rwp hF3) hC3;have hF03:Fr (fun k=>k=p) w (((W0.setCell ⟨p,3,none⟩ (.bool true)).setCell ⟨p,2,none⟩ (.slice y.ka y.c.key.length y.kc)).drew):=(Fr.of_below hbW).trans hF3;have HS:=lH (aI hA3 (aI hF03 hE3));have y0c:W0.drew.cell? ⟨w.heap.size,0,none⟩=some (.slice y.ka y.c.key.length y.kc):=hY0.cell 0;clear hb2 hY2 hE2 hA2 hb20 hA0 hE0 hP0 hP3 hE3 hC3 hA3 hF3 hF03 hbW
   go_wp2_with fail
   refine bB 7 (fun W=>W.cell? ⟨w.heap.size,0,none⟩=some (.slice y.ka y.c.key.length y.kc)) (y0c) (fun hHeld hTl=>?_);refine ae 0 hTl hHeld (fun hTl=>?_)
   try simp only [pT]
   refine ae 1 hTl hHeld (fun hTl=>?_)
   try simp only [pT]
   refine ae 2 hTl hHeld (fun hTl=>?_)
   try simp only [pT]
   refine ae 3 hTl hHeld (fun hTl=>?_)
   try simp only [pT]
   refine ae 4 hTl hHeld (fun hTl=>?_)
   try simp only [pT]
   refine ae 5 hTl hHeld (fun hTl=>?_)
   try simp only [pT]
   clear hTl;refine aA 6 (fun K hK=>?_);go_simp;refine hK.out _ _ (fun _=>hY1.cell 0) ?_;clear hK K
   try simp only [pT]
   refine az 7 (fun K hK=>?_);go_simp;refine hK.out _ _ ?_;clear hK K
   try simp only [pT]
   refine az 8 (fun K hK=>?_);go_simp;refine hK.out _ _ ?_;clear hK K
   try simp only [pT]
   refine az 9 (fun K hK=>?_);go_simp;refine hK.out _ _ ?_;clear hK K
   try simp only [pT]
   refine cW ?_ _
   obtain ⟨W3,hW3⟩:∃ W3,((W0.setCell ⟨p,3,none⟩ (.bool true)).setCell ⟨p,2,none⟩ (.slice y.ka y.c.key.length y.kc)).drew=W3:=⟨_,rfl⟩
   rw [hW3] at HS hY3 ⊢;have hY3:aa W3 w.heap.size 117 #[.slice y.ka y.c.key.length y.kc,.int .i64 y.c.size,.slice y.va y.c.val.length y.vc,.int .u32 (y.c.over:Nat),.int .u32 (y.c.kid:Nat)]:=hY3;have x0:W3.cell? ⟨w.heap.size,0,none⟩=some (.slice y.ka y.c.key.length y.kc):=hY3.cell 0;have x1:W3.cell? ⟨w.heap.size,1,none⟩=some (.int .i64 y.c.size):=hY3.cell 1;have x2:W3.cell? ⟨w.heap.size,2,none⟩=some (.slice y.va y.c.val.length y.vc):=hY3.cell 2;have x3:W3.cell? ⟨w.heap.size,3,none⟩=some (.int .u32 (y.c.over:Nat)):=hY3.cell 3;have xp:W3.cell? ⟨p,0,none⟩=some (.pointer (some ⟨T,0,none⟩)):=HS.out.1.cur.blk.cell 0;clear hW3 k2 k3 f2 f3 hP1 hY0 hY1 y0c;have hsW:w.heap.size<=W3.heap.size:=HS.out.2.1.size;by_cases hs:y.c.size<=40
   ·have d4:decide (y.c.size<=(40:Int))=true:=dT hs;have d5:decide ((40:Int)<y.c.size)=false:=dF (by omega);have hE3:aa W3 (w.heap.size+1) 41 #[.slice none 0 0,.slice none 0 0]:=HS.out.2.2
    go_wp2_with (refine wpList_store_row rfl 41 _ _ rfl (w.heap.size+1) _ rfl rfl 41 _ hE3 (by kernel_rfl) rfl (by simp [Value.oneCell']) ?_)
    refine bodyPost_ret (rT rfl _ _ (w.heap.size+1) 41 _ (0,0) _ rfl (setRow_heap _ _ _ _ _ _ hE3) Tryz.underlying41 rfl (by kernel_rfl)) rfl ?_;have hfr:∀ cs,Fr (fun k=>k=p) w (W3.setRow (w.heap.size+1) cs):=fun cs=>HS.out.2.1.late (fS _ (w.heap.size+1) _) (fun k hk e=>by have e:k=w.heap.size+1:=e;omega)
    have hv0:cV t y.c=.ok y.c.val:=by unfold cV;rw [if_pos hs]
    have hR9:R=.ok ((y.c.key,y.c.val),{s with any:=true,last:=y.c.key}):=by rw [<-HRR.out];unfold eE;rw [if_neg HBAD.out,hv0]
    rw [hR9];exact ⟨⟨y.ka,y.kc,y.va,y.vc,rfl,HI.out.1.cur.rekey (hfr _) (HS.out.1.cur.blk.fr (fS _ _ _) (fun e=>by have e:p=w.heap.size+1:=e;omega)) HI.out.2.1 HI.out.2.2.1,rfl,ax HI.out.2.2.2.1 (hfr _) (fun h0 ad e hh=>HI.out.2.2.2.2.1 h0 ad e (.inr (.inl hh))),HI.out.2.2.2.2.1⟩,Fr.rwp (hfr _)⟩
   ·have d4:decide (y.c.size<=(40:Int))=false:=dF hs;have d5:decide ((40:Int)<y.c.size)=true:=dT (by omega)
    go_wp2_with fail
    have hRd:=wx (w:=W3.drew) (HS.out.1.tx.keep (co.of_below ((bR _ W3).drew))) (fun k hk=>lT (HS.out.1.xl k hk) (nT (nT HI.out.1.cur.lo (Nat.le_of_lt hpl)) hsW)) HS.out.1.ok HS.out.1.g HS.out.1.pow y.c.over HI.out.2.2.2.2.2.1 y.c.size
    cases hr9:lw t y.c.over y.c.size with
    | ok rd =>
     have hv0:cV t y.c=.ok rd.2:=by unfold cV;rw [if_neg (by omega),hr9]
     rw [hr9] at hRd;refine bB 13 (fun W=>W.cell? ⟨w.heap.size,1,none⟩=some (.int .i64 y.c.size)/\W.cell? ⟨w.heap.size,3,none⟩=some (.int .u32 (y.c.over:Nat))/\W.cell? ⟨p,0,none⟩=some (.pointer (some ⟨T,0,none⟩))) (⟨x1,x3,xp⟩) (fun hHeld hTl=>?_);refine ae 0 hTl hHeld (fun hTl=>?_)
     try simp only [pT]
     refine ae 1 hTl hHeld (fun hTl=>?_)
     try simp only [pT]
     refine ae 2 hTl hHeld (fun hTl=>?_)
     try simp only [pT]
     refine ae 3 hTl hHeld (fun hTl=>?_)
     try simp only [pT]
     refine ae 4 hTl hHeld (fun hTl=>?_)
     try simp only [pT]
     refine ae 5 hTl hHeld (fun hTl=>?_)
     try simp only [pT]
     refine ae 6 hTl hHeld (fun hTl=>?_)
     try simp only [pT]
     refine ae 7 hTl hHeld (fun hTl=>?_)
     try simp only [pT]
     have hTl2:=hTl.step 8 (by kernel_rfl) (by decide);clear hTl;refine sP 8 hRd ?_
     rintro e W5 ⟨⟨A5,c5,rfl,ho5⟩,hb5⟩;have hb5:Below W3.heap.size W3 W5:=((bR _ W3).drew).trans hb5;have hY5:=hY3.below hb5 hY3.lt;have xp5:=(hb5.cell (p:=⟨p,0,none⟩) HS.out.1.cur.blk.lt).trans xp;have hHeld:W5.cell? ⟨w.heap.size,1,none⟩=some (.int .i64 y.c.size)/\W5.cell? ⟨w.heap.size,3,none⟩=some (.int .u32 (y.c.over:Nat))/\W5.cell? ⟨p,0,none⟩=some (.pointer (some ⟨T,0,none⟩)):=⟨hY5.cell 1,hY5.cell 3,xp5⟩;have hrow:=ho5
     refine ⟨_,rfl,(fun _=>hHeld),?_⟩
     try simp only [pT]
     have hTl:=hTl2;clear hTl2;refine ae 9 hTl hHeld (fun hTl=>?_)
     try simp only [pT]
     refine ae 10 hTl hHeld (fun hTl=>?_)
     try simp only [pT]
     refine ae 11 hTl hHeld (fun hTl=>?_)
     try simp only [pT]
     refine ae 12 hTl hHeld (fun hTl=>?_)
     try simp only [pT]
     clear hTl;refine az 13 (fun K hK=>?_);go_simp;refine hK.out _ _ ?_;clear hK K
     try simp only [pT]
     refine cW ?_ _;have hE5:aa W5 (w.heap.size+1) 41 #[.slice none 0 0,.slice none 0 0]:=HS.out.2.2.below hb5 HS.out.2.2.lt;have hP5:=(HS.out.1.cur.below hb5).blk;have z0:W5.cell? ⟨w.heap.size,0,none⟩=some (.slice y.ka y.c.key.length y.kc):=hY5.cell 0;have hfr:∀ cs,Fr (fun k=>k=p) w (W5.setRow (w.heap.size+1) cs):=fun cs=>(HS.out.2.1.trans (Fr.of_below hb5)).late (fS _ (w.heap.size+1) _) (fun k hk e=>by have e:k=w.heap.size+1:=e;omega)
     go_wp2_with (refine wpList_store_row rfl 41 _ _ rfl (w.heap.size+1) _ rfl rfl 41 _ hE5 (by kernel_rfl) rfl (by simp [Value.oneCell']) ?_)
     refine bodyPost_ret (rT rfl _ _ (w.heap.size+1) 41 _ (0,0) _ rfl (setRow_heap _ _ _ _ _ _ hE5) Tryz.underlying41 rfl (by kernel_rfl)) rfl ?_
     have hR9:R=.ok ((y.c.key,rd.2),{s with any:=true,last:=y.c.key}):=by rw [<-HRR.out];unfold eE;rw [if_neg HBAD.out,hv0]
     rw [hR9]
     have hA5:∀ ad,A5=some ad->W3.heap.size<=ad.block:=fun ad e=>by
      rcases hrow.2 with ⟨h0,_⟩ | ⟨g,cap,cur,e1,e2,e3,_⟩
      ·rw [e] at h0;cases h0
      ·rw [e] at e1;have e1:=(Value.slice.injEq .. ▸ e1:some ad=_/\_).1
       cases e1
       exact e2
     have hfar:=HI.out.1.cur.rows.far HI.out.1.cur.zlt hpl HI.out.1.cur.lo;have hsg:w.heap.size+1<W3.heap.size:=HS.out.2.2.lt;exact ⟨⟨y.ka,y.kc,A5,c5,rfl,HI.out.1.cur.rekey (hfr _) (hP5.fr (fS _ _ _) (fun e=>by have e:p=w.heap.size+1:=e;omega)) HI.out.2.1 HI.out.2.2.1,rfl,ax (Reads.of_own hrow) (fS _ (w.heap.size+1) _) (fun _ ad e hh=>by have hh:ad.block=w.heap.size+1:=hh;have:=hA5 ad e;omega),fun _ ad e hh=>by have:=hfar _ hh;have:=hA5 ad e;omega⟩,Fr.rwp (hfr _)⟩
    | error k9 =>
     have hv0:cV t y.c=.error k9:=by unfold cV;rw [if_neg (by omega),hr9]
     rw [hr9] at hRd;refine bB 13 (fun W=>W.cell? ⟨w.heap.size,1,none⟩=some (.int .i64 y.c.size)/\W.cell? ⟨w.heap.size,3,none⟩=some (.int .u32 (y.c.over:Nat))/\W.cell? ⟨p,0,none⟩=some (.pointer (some ⟨T,0,none⟩))) (⟨x1,x3,xp⟩) (fun hHeld hTl=>?_);refine ae 0 hTl hHeld (fun hTl=>?_)
     try simp only [pT]
     refine ae 1 hTl hHeld (fun hTl=>?_)
     try simp only [pT]
     refine ae 2 hTl hHeld (fun hTl=>?_)
     try simp only [pT]
     refine ae 3 hTl hHeld (fun hTl=>?_)
     try simp only [pT]
     refine ae 4 hTl hHeld (fun hTl=>?_)
     try simp only [pT]
     refine ae 5 hTl hHeld (fun hTl=>?_)
     try simp only [pT]
     refine ae 6 hTl hHeld (fun hTl=>?_)
     try simp only [pT]
     refine ae 7 hTl hHeld (fun hTl=>?_)
     try simp only [pT]
     have hTl2:=hTl.step 8 (by kernel_rfl) (by decide);clear hTl;refine sP 8 hRd ?_
     rintro e W5 ⟨⟨v9,rfl,hv9,hk9⟩,hb5⟩;have hb5:Below W3.heap.size W3 W5:=((bR _ W3).drew).trans hb5;have hY5:=hY3.below hb5 hY3.lt;have xp5:=(hb5.cell (p:=⟨p,0,none⟩) HS.out.1.cur.blk.lt).trans xp;have hHeld:W5.cell? ⟨w.heap.size,1,none⟩=some (.int .i64 y.c.size)/\W5.cell? ⟨w.heap.size,3,none⟩=some (.int .u32 (y.c.over:Nat))/\W5.cell? ⟨p,0,none⟩=some (.pointer (some ⟨T,0,none⟩)):=⟨hY5.cell 1,hY5.cell 3,xp5⟩;have hvv:∃ tv pe,v9=.iface tv pe:=(by rcases hv9 with ⟨h9,_⟩ | ⟨_,e9⟩ | ⟨_,r,op,nm,e9,_⟩;exact absurd h9 hk9;exact ⟨_,_,e9⟩;exact ⟨_,_,e9⟩);obtain ⟨tv,pe,rfl⟩:=hvv
     refine ⟨_,rfl,(fun _=>hHeld),?_⟩
     try simp only [pT]
     have hTl:=hTl2;clear hTl2;refine ae 9 hTl hHeld (fun hTl=>?_)
     try simp only [pT]
     refine ae 10 hTl hHeld (fun hTl=>?_)
     try simp only [pT]
     refine ae 11 hTl hHeld (fun hTl=>?_)
     try simp only [pT]
     refine ae 12 hTl hHeld (fun hTl=>?_)
     try simp only [pT]
     clear hTl;refine az 13 (fun K hK=>?_);go_simp;refine hK.out _ _ ?_;clear hK K
     try simp only [pT]
     refine cW ?_ _;have hE5:aa W5 (w.heap.size+1) 41 #[.slice none 0 0,.slice none 0 0]:=HS.out.2.2.below hb5 HS.out.2.2.lt;have hP5:=(HS.out.1.cur.below hb5).blk;have z0:W5.cell? ⟨w.heap.size,0,none⟩=some (.slice y.ka y.c.key.length y.kc):=hY5.cell 0;have hfr:∀ cs,Fr (fun k=>k=p) w (W5.setRow (w.heap.size+1) cs):=fun cs=>(HS.out.2.1.trans (Fr.of_below hb5)).late (fS _ (w.heap.size+1) _) (fun k hk e=>by have e:k=w.heap.size+1:=e;omega)
     go_wp2_with (refine wpList_store_row rfl 41 _ _ rfl (w.heap.size+1) _ rfl rfl 41 _ hE5 (by kernel_rfl) rfl (by simp [Value.oneCell']) ?_)
     refine bodyPost_ret (rT rfl _ _ (w.heap.size+1) 41 _ (0,0) _ rfl (setRow_heap _ _ _ _ _ _ hE5) Tryz.underlying41 rfl (by kernel_rfl)) rfl ?_
     have hR9:R=.error k9:=by rw [<-HRR.out];unfold eE;rw [if_neg HBAD.out,hv0]
     rw [hR9];have hsg:w.heap.size+1<W3.heap.size:=HS.out.2.2.lt
     exact ⟨⟨_,_,rfl,hk9,((hv9.fr (fS _ (w.heap.size+1) _) (fun r hr _ e=>by have e:r=w.heap.size+1:=e;have hr:W3.heap.size<=r:=hr;omega)).lo hsW),hP5.fr (fS _ _ _) (fun e=>by have e:p=w.heap.size+1:=e;omega),rfl⟩,Fr.rwp (hfr _)⟩)
end
end Go.Proofs.YtgohffhoapkeaaaGreatDoor
