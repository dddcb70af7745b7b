/- A part of the proof of ScanWild. No condition of its own. -/
import Derived.Test.YtgohffhoapkeaaaGreatDoorVz
import Derived.Test.YtgohffhoapkeaaaGreatDoorZe
import Derived.Below
import Derived.Calls
import Derived.Orders
import Derived.Laws.IdiomCopy
import Derived.Deep.AppendSrc
import Derived.WalkKit
import Derived.Laws.Tables
import Derived.Deep.MidRow
set_option maxHeartbeats 4000000
set_option maxRecDepth 1000000
set_option linter.unusedVariables false
namespace Go.Proofs.YtgohffhoapkeaaaGreatDoor
section
open Go.RowKit
theorem cm.fr {B:Nat} {w w':World} {op nm:ByteArray} {k:Int} {v:Value} {X:Nat->Prop} (h:cm B w op nm k v) (hf:Fr X w w') (hX:∀ r,B<=r->¬ X r):cm B w' op nm k v:=by
 rcases h with h | ⟨h1,r,e,hB,hr⟩
 ·exact .inl h
 ·exact .inr ⟨h1,r,e,hB,(hf.block r (aS.1 hr).1 (hX r hB)).trans hr⟩
def nz {α:Type} (r:Except Int α):Int:=match r with
 | .error k=>k
 | .ok _=>0
def Hy:PN:=⟨0,0,[],0,[],0,0,0,0⟩
def tF (r:Except Int PN):PN:=match r with
 | .error _=>Hy
 | .ok x=>x
def sa:NX:=⟨0,0,none,0,[],0,none,0,[],0,0,0,0⟩
def ze (r:Except Int PN) (B:Nat) (e:Ending) (w':World):Prop:=∃ y:NX,y.n=tF r/\e=.returned (.tuple #[y.val,.int .i64 (nz r)])/\aP w' w'.heap.size y/\dC B y
theorem vB (w:World) (B:Nat):aP w B sa:=za rfl rfl
theorem vC (B:Nat):dC B sa:=⟨fun ad h=>(by cases h),fun ad h=>(by cases h),fun y hy=>(by cases hy),fun y hy=>(by cases hy)⟩
theorem xI {b:List UInt8} {B:Nat} {e:Ending} {w w':World} (h:xo b B e w w'):ze (cJ b) B e w'/\Below B w w':=by
 unfold xo at h;refine ⟨?_,h.2⟩;have h1:=h.1;unfold ze
 cases hg:cJ b with
 | error k =>
  rw [hg] at h1;exact ⟨sa,rfl,h1,vB _ _,vC _⟩
 | ok n =>
  rw [hg] at h1;obtain ⟨x,h2,h3,h4,h5⟩:=h1;exact ⟨x,h2,h3,h4,h5⟩
theorem sb {t:PT} {n:Nat} {k:Int} (h:iN t n=.error k):k=7:=by
 unfold iN at h
 split at h
 ·cases h;rfl
 ·split at h
  ·cases h
  ·split at h
   ·cases h
   ·split at h
    ·cases h
    ·cases h;rfl
theorem pI {w:World} {B:Nat} {A:Option Addr} {c:Nat} {b:List UInt8} (h:bK w B A c b):b.length<=c:=by
 rcases Nat.eq_zero_or_pos b.length with h0 | h0
 ·omega
 ·obtain ⟨g',c',e',hc',_⟩:=iu h h0;simp only [Value.slice.injEq] at e';omega
theorem CS {X:Nat->Prop} {w:World} {T M:Nat} {t:PT} (h:TX X w T M t) (ok:t.OK) (n:Nat) (hn32:n<4294967296) (hg:ay w) (ht:aH w) :
 Calls Tryz.prog 104 #[.pointer (some ⟨T,0,none⟩),.int .u32 (n:Nat)] w fun e w'=>ze (cn t n) w.heap.size e w'/\Below w.heap.size w w':=by
 obtain ⟨w1,hw1⟩:∃ w1,w1=w.alloc (.cells eb 95):=⟨_,rfl⟩
 have hb1:Below w.heap.size w w1:=by rw [hw1];exact (bR _ w).alloc (nR _) _
 have hN1:aa w1 w.heap.size 95 eb:=by rw [hw1];exact aa.new _ _ _
 have hB:=AX (h.keep (co.of_below hb1)) ok n hn32 (ai hg hb1) (aw ht hb1);unfold eb at hw1 hN1;have HW1:=lH hw1;have HN1:=lH hN1;clear hw1 hN1 h hg;have hlt:w.heap.size<w1.heap.size:=HN1.out.lt;unfold cn
 cases hp:iN t n with
 | error k =>
  have hk:=sb hp;subst hk;rw [hp] at hB;unfold tE at hB;go_enter Tryz.func104,Tryz.ntmps104
  go_wp2_with (first
   | (rw [<-HW1.out];go_at_call 140;refine hB.mono ?_;rintro e w2 ⟨rfl,hb2⟩;have hN3:=HN1.out.below hb2 HN1.out.lt)
   | (refine wpList_store_row rfl 95 _ _ rfl w.heap.size _ rfl rfl 95 _ hN3 (by kernel_rfl) rfl (by simp [Value.oneCell']) ?_))
  refine bodyPost_ret (rT rfl _ _ w.heap.size 95 _ (0,0) _ rfl (setRow_heap _ _ _ _ _ _ hN3) Tryz.underlying95 rfl (by kernel_rfl)) rfl ?_;have hb4:=hb1.trans (hb2.mono hb1.size);exact ⟨⟨sa,rfl,rfl,vB _ _,vC _⟩,hb4.trans ((fS _ w.heap.size _).below (B:=w.heap.size) hb4.size (fun k hk=>by omega))⟩
 | ok b =>
  rw [hp] at hB;unfold tE at hB;simp only;have HG:Hid (∀ (W:World) (A:Option Addr) (c:Nat),bK W w1.heap.size A c b->_):=lH fun W A c ho=>pH (B:=W.heap.size) A c b W (nR _) ho.rd (pI ho);go_enter Tryz.func104,Tryz.ntmps104
  go_wp2_with (first
   | (go_at_call 36;refine (HG.out _ _ _ ho).mono ?_)
   | (rw [<-HW1.out];go_at_call 140;refine hB.mono ?_;rintro e w2 ⟨⟨A,c,rfl,ho⟩,hb2⟩))
  rintro e w3 hR;obtain ⟨⟨y,hy,rfl,hya,hylo⟩,hb3⟩:=xI hR;have hb23:Below w1.heap.size w1 w3:=hb2.trans (hb3.mono hb2.size);have hN3:=HN1.out.below hb23 HN1.out.lt;unfold NX.val aJ
  go_wp2_with (refine wpList_store_row rfl 95 _ _ rfl w.heap.size _ rfl rfl 95 _ hN3 (by kernel_rfl) rfl (by simp [Value.oneCell']) ?_)
  refine bodyPost_ret (rT rfl _ _ w.heap.size 95 _ (0,0) _ rfl (setRow_heap _ _ _ _ _ _ hN3) Tryz.underlying95 rfl (by kernel_rfl)) rfl ?_;have hb4:=hb1.trans (hb23.mono hb1.size);refine ⟨⟨y,hy,rfl,?_,hylo.mono (nT hb1.size hb2.size)⟩,hb4.trans ((fS _ w.heap.size _).below (B:=w.heap.size) hb4.size (fun k hk=>by omega))⟩;rw [size_setRow];exact hya.fr (fS _ _ _) (nR _) hylo (fun k hk=>by have:=hb2.size;omega)
theorem vD {X:Nat->Prop} {w:World} {T M:Nat} {t:PT} (h:TX X w T M t) (ok:t.OK) (n:Nat) (hn32:n<4294967296) (hg:ay w) (htab:aH w) :
 Calls Tryz.prog 68 #[.pointer (some ⟨T,0,none⟩),.int .u32 (n:Nat)] w fun e w'=>∃ (y:NX) (v:Value),y.n=tF (cn t n)/\e=.returned (.tuple #[y.val,v])/\cm w.heap.size w' zd (Hw n) (nz (cn t n)) v/\aP w' w'.heap.size y/\dC w.heap.size y/\Below w.heap.size w w':=by
 obtain ⟨w1,hw1⟩:∃ w1,w1=w.alloc (.cells eb 95):=⟨_,rfl⟩
 have hb1:Below w.heap.size w w1:=by rw [hw1];exact (bR _ w).alloc (nR _) _
 have hN1:aa w1 w.heap.size 95 eb:=by rw [hw1];exact aa.new _ _ _
 have hN:=CS (h.keep (co.of_below hb1)) ok n hn32 (ai hg hb1) (aw htab hb1)
 obtain ⟨er,HER⟩:∃ k,Hid (nz (cn t n)=k):=⟨_,lH rfl⟩
 unfold ze at hN;rw [HER.out] at hN ⊢;have hF:=fun op nm W=>jI op nm er W;have hD:=fun W hW=>pr n hn32 W hW;unfold eb at hw1 hN1;have HW1:=lH hw1;have HN1:=lH hN1;clear hg h hw1 hN1;go_enter Tryz.func68,Tryz.ntmps68
 go_wp2_with (first
  | (rw [<-HW1.out];go_at_call 104;refine hN.mono ?_;rintro e w2 ⟨⟨y,hy,rfl,hya,hylo⟩,hb2⟩;have ht2:=aw htab (hb1.trans (hb2.mono hb1.size));obtain ⟨w3,hw3⟩:∃ w3,w3=w2.alloc (.cells y.cells 95):=⟨_,rfl⟩;have hb3:Below w2.heap.size w2 w3:=(by rw [hw3];exact (bR _ w2).alloc (nR _) _);have hN3:aa w3 w2.heap.size 95 y.cells:=(by rw [hw3];exact aa.new _ _ _);have ht3:=aw ht2 hb3;unfold NX.val aJ;unfold NX.cells at hw3 hN3;have HW3:=lH hw3;clear hw3))
 have hN1w:aa w3 w.heap.size 95 #[.int .i64 0,.int .u64 0,.slice none 0 0,.int .u32 0,.slice none 0 0,.int .u32 0,.int .u32 0,.int .u32 0,.int .u64 0]:=(HN1.out.below hb2 HN1.out.lt).below hb3 (lT HN1.out.lt hb2.size);rw [<-HW3.out];have H31:=lH hN1w;clear hN1w;refine bB 5 (fun W=>aa W w2.heap.size 95 #[.int .i64 y.kind,.int .u64 (y.lsn:Nat),.slice y.ca y.l.length y.cc,.int .u32 (y.next:Nat),.slice y.da y.data.length y.dc,.int .u32 (y.root:Nat),.int .u32 (y.pages:Nat),.int .u32 (y.free:Nat),.int .u64 (y.entries:Nat)]) (hN3) (fun hHeld hTl=>?_);refine yW 0 (v:=.agg #[.int .i64 y.kind,.int .u64 (y.lsn:Nat),.slice y.ca y.l.length y.cc,.int .u32 (y.next:Nat),.slice y.da y.data.length y.dc,.int .u32 (y.root:Nat),.int .u32 (y.pages:Nat),.int .u32 (y.free:Nat),.int .u64 (y.entries:Nat)]) hTl rfl (by decide) (by kernel_rfl) (by kernel_rfl) (fun _ _ _ h=>h) hHeld (Or.inl ⟨by rfl,?_⟩) (fun hTl=>?_)
 ·intro W hSw;have hsw:aa W w2.heap.size 95 #[.int .i64 y.kind,.int .u64 (y.lsn:Nat),.slice y.ca y.l.length y.cc,.int .u32 (y.next:Nat),.slice y.da y.data.length y.dc,.int .u32 (y.root:Nat),.int .u32 (y.pages:Nat),.int .u32 (y.free:Nat),.int .u64 (y.entries:Nat)]:=hSw;have c0:W.cell? ⟨w2.heap.size,0,none⟩=some (.int .i64 y.kind):=hsw.cell 0;have c1:W.cell? ⟨w2.heap.size,1,none⟩=some (.int .u64 (y.lsn:Nat)):=hsw.cell 1;have c2:W.cell? ⟨w2.heap.size,2,none⟩=some (.slice y.ca y.l.length y.cc):=hsw.cell 2;have c3:W.cell? ⟨w2.heap.size,3,none⟩=some (.int .u32 (y.next:Nat)):=hsw.cell 3;have c4:W.cell? ⟨w2.heap.size,4,none⟩=some (.slice y.da y.data.length y.dc):=hsw.cell 4;have c5:W.cell? ⟨w2.heap.size,5,none⟩=some (.int .u32 (y.root:Nat)):=hsw.cell 5;have c6:W.cell? ⟨w2.heap.size,6,none⟩=some (.int .u32 (y.pages:Nat)):=hsw.cell 6;have c7:W.cell? ⟨w2.heap.size,7,none⟩=some (.int .u32 (y.free:Nat)):=hsw.cell 7;have c8:W.cell? ⟨w2.heap.size,8,none⟩=some (.int .u64 (y.entries:Nat)):=hsw.cell 8;go_simp
 try simp only [pT]
 refine ae 1 hTl hHeld (fun hTl=>?_)
 try simp only [pT]
 refine ae 3 hTl hHeld (fun hTl=>?_)
 try simp only [pT]
 have hTl2:=hTl.step 2 (by kernel_rfl) (by decide);clear hTl;refine sP 2 (hD _ ht3) ?_
 rintro e w4 ⟨rfl,hb4⟩;have hN4:=aa.below (show aa w3.drew w2.heap.size 95 #[.int .i64 y.kind,.int .u64 (y.lsn:Nat),.slice y.ca y.l.length y.cc,.int .u32 (y.next:Nat),.slice y.da y.data.length y.dc,.int .u32 (y.root:Nat),.int .u32 (y.pages:Nat),.int .u32 (y.free:Nat),.int .u64 (y.entries:Nat)] from hN3) hb4 (show w2.heap.size<w3.heap.size by have:=hN3.lt;omega)
 refine ⟨_,rfl,(fun _=>hN4),?_⟩
 try simp only [pT]
 have hTl:=hTl2;clear hTl2;refine sP 4 (hF ⟨#[112,97,103,101]⟩ ⟨(Lib.decDigits n).toArray⟩ _) ?_
 rintro e w5 ⟨v,rfl,hv,hb5⟩;have hN5:=hN4.below hb5 hN4.lt;have hN15:=(aa.below (show aa w3.drew w.heap.size 95 #[.int .i64 0,.int .u64 0,.slice none 0 0,.int .u32 0,.slice none 0 0,.int .u32 0,.int .u32 0,.int .u32 0,.int .u64 0] from H31.out) hb4 (show w.heap.size<w3.heap.size from H31.out.lt)).below hb5 (lT H31.out.lt hb4.size)
 refine ⟨_,rfl,(fun _=>hN5),?_⟩
 try simp only [pT]
 refine aA 5 (fun K hK=>?_);refine au rfl 95 (.tmp 4) (.tmp 14) rfl w.heap.size _ rfl rfl 95 _ hN15 (by kernel_rfl) rfl (by simp [Value.oneCell']) ?_
 skip
 refine hK.out _ _ (fun h=>absurd h (by decide)) ?_;clear hK K
 try simp only [pT]
 refine az 6 (fun K hK=>?_);go_simp;refine hK.out _ _ ?_;clear hK K
 try simp only [pT]
 refine cW ?_ _;go_wp2;refine bodyPost_ret (rT rfl _ _ w.heap.size 95 _ (0,0) _ rfl (setRow_heap _ _ _ _ _ _ hN15) Tryz.underlying95 rfl (by kernel_rfl)) rfl ?_;have hb45:Below w3.heap.size w3 w5:=(show Below w3.heap.size w3 w4 from ⟨hb4.os,hb4.tape,hb4.output,hb4.size,hb4.block⟩).trans (hb5.mono hb4.size);have hb25:=hb3.trans (hb45.mono hb3.size);have hb15:=hb1.trans ((hb2.trans (hb25.mono hb2.size)).mono hb1.size);have hlt:w.heap.size<w1.heap.size:=HN1.out.lt;refine ⟨y,v,hy,rfl,?_,?_,hylo.mono hb1.size,hb15.trans ((fS _ w.heap.size _).below (B:=w.heap.size) hb15.size (fun k hk=>by omega))⟩
 ·have hsz:w.heap.size+1<=w4.heap.size:=nT hlt (nT hb2.size (nT hb3.size (show w3.heap.size<=w4.heap.size from hb4.size)));exact (hv.fr (fS _ w.heap.size _) (fun r hr=>by omega)).lo (by omega)
 rw [size_setRow];exact ((hya.below hb25).mono hb25.size).fr (fS _ _ _) (nR _) hylo (fun k hk=>by omega)
theorem vE {b:List UInt8} {k:Int} (h:cJ b=.error k):k=50\/k=51\/k=80:=by
 unfold cJ at h
 split at h
 ·rename_i h0
  cases h
  unfold fJ at h0 ⊢
  split
  ·exact .inl rfl
  ·split
   ·exact .inr (.inl rfl)
   ·split
    ·rename_i h1 h2 h3;rw [if_neg h1,if_neg h2,if_pos h3] at h0;exact absurd rfl h0
    ·exact .inl rfl
 ·split at h
  ·cases h;exact .inr (.inr rfl)
  ·split at h
   ·cases h
   ·cases h;exact .inr (.inr rfl)
theorem mU {t:PT} {n:Nat} {k:Int} (h:cn t n=.error k):k=7\/k=50\/k=51\/k=80:=by
 unfold cn at h
 cases hp:iN t n with
 | error e =>
  rw [hp] at h;have:=sb hp
  cases h
  exact .inl this
 | ok b =>
  rw [hp] at h;exact .inr (vE h)
def kT:ByteArray:=⟨#[98,101,103,105,110]⟩
def Gd (Y:Nat->Prop) (w:World) (r:Except Int PT) (e:Ending) (w':World):Prop:=match r with
 | .error k=>∃ v,e=.returned (.tuple #[.pointer none,v])/\cm w.heap.size w' kT ⟨#[]⟩ k v
 | .ok t=>∃ T M,e=.returned (.tuple #[.pointer (some ⟨T,0,none⟩),.nilIface])/\TX (FG Y w) w' T M t/\w.heap.size<=T/\w.heap.size<=M
theorem xJ {Y:Nat->Prop} {v:Value} {src:List (List UInt8)} (lsn:Nat) (w:World) (hs:fP Y w v src) (hn:src=[]) (hg:ay w) (ht:aH w) :
 Calls Tryz.prog 20 #[v,.int .u64 (lsn:Nat)] w fun e w'=>(∃ v,e=.returned (.tuple #[.pointer none,v])/\cm w.heap.size w' kT ⟨#[]⟩ 7 v)/\Below w.heap.size w w':=by
 have hme:=fun v W=>jJ v W;have h1lt:=dQ ht;obtain ⟨A,c,ps,rfl,rfl,h1,h0,h2,h3⟩:=hs
 have hps:ps=[]:=by simpa using hn
 subst hps;have hMp:=lL A 0 c 0 (by decide) (nR _) w ht;have hF:=fun W=>jI kT ⟨#[]⟩ 7 W;unfold kT at hF;simp only [List.length_nil];simp only [Int.natCast_zero] at hMp;go_enter Tryz.func20,Tryz.ntmps20
 go_wp2_with (first
  | (go_at_call 208;refine hMp.mono ?_))
 rintro e w2 ⟨v,rfl,hv,hb2⟩;have hcode:=tf hv.e (ai hg hb2)
 obtain ⟨pe,rfl⟩:∃ p,v=.iface 82 p:=by
  rcases hv with ⟨h,_⟩ | ⟨_,r,e,_⟩
  ·cases h
  ·exact ⟨_,e⟩
 go_wp2_with (first
  | (go_at_call 34;refine hcode.mono ?_;rintro e w3 ⟨rfl,hf3⟩)
  | (go_at_call 35;refine (hF _).mono ?_;rintro e w5 ⟨v,rfl,hv5,hb5⟩))
 go_ret2;have hb3:Below w.heap.size w w3:=hb2.trans (hf3.mono hb2.size);exact ⟨⟨v,rfl,hv5.lo hb3.size⟩,hb3.trans (hb5.mono hb3.size)⟩
theorem sd {Y:Nat->Prop} {v:Value} {src:List (List UInt8)} (lsn:Nat) (w:World) (hs:fP Y w v src) {b:List UInt8} (hb:src[0]?=some b) {k:Int} (hk:k≠0) (hge:cJ b=.error k\/(k=80/\∃ n,cJ b=.ok n/\n.kind≠1)) (hg:ay w) (ht:aH w) :
 Calls Tryz.prog 20 #[v,.int .u64 (lsn:Nat)] w fun e w'=>(∃ v,e=.returned (.tuple #[.pointer none,v])/\cm w.heap.size w' kT ⟨#[]⟩ k v)/\Below w.heap.size w w':=by
 have hme:=fun v W=>jJ v W;have h1lt:=dQ ht;obtain ⟨A,c,ps,rfl,rfl,h1,h0,h2,h3⟩:=hs;rw [List.getElem?_map] at hb
 cases hp:ps[0]? with
 | none=>rw [hp] at hb;cases hb
 | some p =>
  rw [hp] at hb;simp only [Option.map_some,Option.some.injEq] at hb;subst hb;have hpm:=mG hp;have hMp:=ix A c ps 0 p hp w (nR _) h1 h0 (h3 p hpm).rd (h3 p hpm).long;simp only [Int.natCast_zero] at hMp;have hF:=fun W=>jI kT ⟨#[]⟩ k W;unfold kT at hF;have HG:=lH hge;clear h1 h2 h3 hp hge;go_enter Tryz.func20,Tryz.ntmps20
  go_wp2_with (first
   | (go_at_call 208;refine hMp.mono ?_))
  rintro e w2 ⟨A',c',rfl,ho,hb2⟩;have hN:=pH (B:=w2.heap.size) A' c' p.b w2 (nR _) ho.rd (pI ho)
  go_wp2_with (first
   | (go_at_call 36;refine hN.mono ?_))
  rintro e w3 hR;obtain ⟨⟨y,hy,rfl,hya,hylo⟩,hb3⟩:=xI hR;unfold NX.val aJ
  obtain ⟨W,hW⟩:∃ W,W=w3.alloc (.cells y.cells 95):=⟨_,rfl⟩
  have hbw3:=hb2.trans (hb3.mono hb2.size)
  have hbW:Below w.heap.size w W:=by rw [hW];exact hbw3.alloc hbw3.size _
  have hBW:aa W w3.heap.size 95 y.cells:=by rw [hW];exact aa.new _ _ _
  have g0:W.cell? ⟨w3.heap.size,0,none⟩=some (.int .i64 y.kind):=hBW.cell 0;unfold NX.cells at hW;have HW:=lH hW;clear hW hBW
  rcases HG.out with hge | ⟨rfl,n,hge,hn⟩
  ·have ec:nz (cJ p.b)=k:=by rw [hge];rfl
   rw [ec]
   have z1:(k==0)=false:=by simpa using hk
   have z2:(k != 0)=true:=by simpa using hk
   clear hge ec
   go_wp2_with (first
    | (rw [<-HW.out];go_at_call 35;refine (hF _).mono ?_;rintro e w5 ⟨v,rfl,hv5,hb5⟩))
   go_ret2;exact ⟨⟨v,rfl,hv5.lo hbW.size⟩,hbW.trans (hb5.mono hbW.size)⟩
  ·have ec:nz (cJ p.b)=0:=by rw [hge];rfl
   have ek:y.kind≠1:=by
    have:y.n.kind=n.kind:=by rw [hy,hge];rfl
    rw [show y.kind=y.n.kind from rfl,this];exact hn
   have z1:(y.kind != 1)=true:=by simpa using ek
   rw [ec];clear hge ec ek
   go_wp2_with (first
    | (rw [<-HW.out];go_at_call 35;refine (hF _).mono ?_;rintro e w5 ⟨v,rfl,hv5,hb5⟩))
   go_ret2;exact ⟨⟨v,rfl,hv5.lo hbW.size⟩,hbW.trans (hb5.mono hbW.size)⟩
theorem co.of_below' {X:Nat->Prop} {w w':World} (h:Below w.heap.size w w'):co X w w':=co.of_below h
theorem fP.cut {Y:Nat->Prop} {w:World} {v:Value} {src:List (List UInt8)} (h:fP Y w v src):fP (fun k=>Y k/\k<w.heap.size) w v src:=by
 obtain ⟨A,c,ps,e1,e2,h1,h0,h2,h3⟩:=h;exact ⟨A,c,ps,e1,e2,h1,h0,fun hn ad e=>⟨h2 hn ad e,(h2 hn ad e).2⟩,fun p hp=>(h3 p hp).cut⟩
theorem CU {Y:Nat->Prop} {v:Value} {src:List (List UInt8)} (lsn:Nat) (w:World) (hs:fP Y w v src) {b:List UInt8} (hb:src[0]?=some b) {n:PN} (hgb:cJ b=.ok n) (hn:n.kind=1) (hg:ay w) (ht:aH w) :
 Calls Tryz.prog 20 #[v,.int .u64 (lsn:Nat)] w fun e w'=>(∃ T M,e=.returned (.tuple #[.pointer (some ⟨T,0,none⟩),.nilIface])/\TX (FG Y w) w' T M ⟨src,lsn,n.root,n.pages,n.free,n.entries,[],false⟩/\w.heap.size<=T/\w.heap.size<=M)/\Below w.heap.size w w':=by
 have hme:=fun v W=>jJ v W;have hmm:=@run_makeMap Tryz.prog;have h1lt:=dQ ht;have HS:=lH hs;obtain ⟨A,c,ps,rfl,rfl,h1,h0,h2,h3⟩:=hs;rw [List.getElem?_map] at hb
 cases hp:ps[0]? with
 | none=>rw [hp] at hb;cases hb
 | some p =>
  rw [hp] at hb;simp only [Option.map_some,Option.some.injEq] at hb;subst hb;have hpm:=mG hp;have hMp:=ix A c ps 0 p hp w (nR _) h1 h0 (h3 p hpm).rd (h3 p hpm).long;simp only [Int.natCast_zero] at hMp;clear h1 h2 h3 hp;go_enter Tryz.func20,Tryz.ntmps20
  go_wp2_with (first
   | (go_at_call 208;refine hMp.mono ?_))
  rintro e w2 ⟨A',c',rfl,ho,hb2⟩;have hN:=pH (B:=w2.heap.size) A' c' p.b w2 (nR _) ho.rd (pI ho)
  go_wp2_with (first
   | (go_at_call 36;refine hN.mono ?_))
  rintro e w3 hR;obtain ⟨⟨y,hy,rfl,hya,hylo⟩,hb3⟩:=xI hR;rw [hgb] at hy;have hy':y.n=n:=hy
  have ec:nz (cJ p.b)=0:=by rw [hgb];rfl
  rw [ec]
  have ek:y.kind=1:=by rw [<-hn,<-hy'];rfl
  have er1:y.root=n.root:=by rw [<-hy'];rfl
  have er2:y.pages=n.pages:=by rw [<-hy'];rfl
  have er3:y.free=n.free:=by rw [<-hy'];rfl
  have er4:y.entries=n.entries:=by rw [<-hy'];rfl
  unfold NX.val aJ
  obtain ⟨W,hW⟩:∃ W,W=w3.alloc (.cells y.cells 95):=⟨_,rfl⟩
  have hbw3:=hb2.trans (hb3.mono hb2.size)
  have hbW:Below w.heap.size w W:=by rw [hW];exact hbw3.alloc hbw3.size _
  have hBW:aa W w3.heap.size 95 y.cells:=by rw [hW];exact aa.new _ _ _
  have z1:(y.kind != 1)=false:=by rw [ek];rfl
  have HE:=lH (aI er1 (aI er2 (aI er3 er4)));clear hW hBW hy hy' ek er1 er2 er3 er4 ec hbW
  go_wp2_with fail
  go_ret2;obtain ⟨er1,er2,er3,er4⟩:=HE.out
  obtain ⟨W1,hW1⟩:∃ W1,W1=w3.alloc (.cells #[.int .i64 y.kind,.int .u64 (y.lsn:Nat),.slice y.ca y.l.length y.cc,.int .u32 (y.next:Nat),.slice y.da y.data.length y.dc,.int .u32 (y.root:Nat),.int .u32 (y.pages:Nat),.int .u32 (y.free:Nat),.int .u64 (y.entries:Nat)] 95):=⟨_,rfl⟩
  have hs1:W1.heap.size=w3.heap.size+1:=by rw [hW1];simp
  have hb1:Below w.heap.size w W1:=by rw [hW1];exact hbw3.alloc hbw3.size _
  rw [<-hW1];have hba:Below w.heap.size w (W1.alloc (.map #[] 0)):=hb1.alloc hb1.size _;have hb5:Below w.heap.size w ((W1.alloc (.map #[] 0)).alloc (.cells #[.iface 57 (.agg #[.slice A ps.length c]),.int .u64 (lsn:Nat),.int .u32 (y.root:Nat),.int .u32 (y.pages:Nat),.int .u32 (y.free:Nat),.int .u64 (y.entries:Nat),.map (some (w3.heap.size+1)),.bool false] 100)):=hba.alloc hba.size _;have hsl:w.heap.size<=w3.heap.size:=hbw3.size;refine ⟨⟨_,w3.heap.size+1,rfl,⟨[],0,.iface 57 (.agg #[.slice A ps.length c]),by omega,.inr (by show w.heap.size<=w3.heap.size+1+1;omega),.inr (by show w.heap.size<=w3.heap.size+1;omega),?_,?_,⟨fun e he=>absurd he (List.not_mem_nil),List.nodup_nil⟩,rfl,fun e he=>absurd he (List.not_mem_nil),?_⟩,by omega,by omega⟩,hb5⟩
  ·rw [<-er1,<-er2,<-er3,<-er4];exact iW _ _ _ (by simp [hs1])
  ·rw [Below.heap_alloc _ _ _ (by simp [hs1]),<-hs1];show (W1.heap.push _)[W1.heap.size]?=_;simp
  ·exact (HS.out.cut.keep (co.of_below' hb5)).mono fun k hk=>⟨.inl hk.1,by omega,by omega⟩
theorem AY {Y:Nat->Prop} {v:Value} {src:List (List UInt8)} (lsn:Nat) (w:World) (hs:fP Y w v src) (hg:ay w) (ht:aH w) :
 Calls Tryz.prog 20 #[v,.int .u64 (lsn:Nat)] w fun e w'=>Gd Y w (kK src lsn) e w'/\Below w.heap.size w w':=by
 unfold kK
 cases hb:src[0]? with
 | none=>exact xJ lsn w hs (by cases src with
  | nil=>rfl
  | cons a l=>simp at hb) hg ht
 | some b =>
  simp only
  cases hgb:cJ b with
  | error k =>
   have:=vE hgb;exact sd lsn w hs hb (by omega) (.inl hgb) hg ht
  | ok n =>
   simp only;by_cases hn:n.kind=1
   ·rw [if_pos hn];exact CU lsn w hs hb hgb hn hg ht
   ·rw [if_neg hn];exact sd lsn w hs hb (by decide) (.inr ⟨rfl,n,hgb,hn⟩) hg ht
end
end Go.Proofs.YtgohffhoapkeaaaGreatDoor
namespace Go.Proofs.YtgohffhoapkeaaaGreatDoor
open Go.RowKit
structure nk (w:World) (A:Option Addr) (ps:List Pt):Prop where
 row:Reads w w.heap.size 1 A ps.length (ps.map Pt.val)
 each:∀ p∈ps,Reads w w.heap.size 1 p.A p.b.length (bl p.b)/\p.b.length<=p.c/\p.b.length<=9223372036854775807
theorem lM {w:World} {B n:Nat} {A:Option Addr} {xs:List Value} (h:Reads w B 1 A n xs) (h0:0<xs.length) (hn:0<n):∃ g o,A=some ⟨g,o,none⟩/\g<B/\∀ j u,xs[j]?=some u->w.cell? ⟨g,o+j,none⟩=some u:=by
 obtain ⟨ad,rfl,hb,hc⟩:=h.2 (by omega)
 obtain ⟨u,hu⟩:∃ u,xs[0]?=some u:=⟨_,gE h0⟩
 have c0:=World.cell?_spot (hc 0 u hu);obtain ⟨g,o,sp⟩:=ad;have c0:sp=none:=c0;subst c0
 exact ⟨g,o,rfl,hb,fun j u hu=>by
  have h9:=hc j u hu;rw [show (⟨g,o,none⟩:Addr).add j=⟨g,o+j,none⟩ by unfold Addr.add;split <;> simp_all] at h9
  exact h9⟩
theorem zf {w:World} (ht:aH w) {B n:Nat} {A:Option Addr} {xs:List Value} (h:Reads w B 1 A n xs) {u:Value} (hu:xs[0]?=some u) (hn:0<n) (hx:∀ z,u≠.int .u64 z):∀ ad,A=some ad->ad.block≠2:=by
 intro ad e hb;obtain ⟨g,o,e2,_,hc⟩:=lM h (by have:=(lS.1 hu).1;omega) hn;rw [e] at e2
 cases e2
 have hb:g=2:=hb;subst hb;have c0:=hc 0 u hu;unfold aH at ht;unfold World.cell? at c0
 split at ht
 ·rename_i cs t fz he
  cases ht
  rw [he] at c0
  have c0:((Lib.pow10Tab.map fun z=>Value.int .u64 z).toArray)[o+0]?=some u:=by simpa using c0
  obtain ⟨z,_,hz⟩:∃ z,z∈Lib.pow10Tab/\Value.int .u64 z=u:=by
   have:=mG (l:=Lib.pow10Tab.map fun z=>Value.int .u64 z) (by simpa using c0)
   simpa using this
  exact hx z hz.symm
 ·cases ht
theorem nk.src {w:World} {A:Option Addr} {ps:List Pt} (h:nk w A ps) (ht:aH w) (c:Nat) (hl:ps.length<=24) (hs:∀ p∈ps,p.b.length<=600):fP (fun k=>k≠2) w (.iface 57 (.agg #[.slice A ps.length c])) (ps.map Pt.b):=by
 refine ⟨A,c,ps,rfl,rfl,h.row,by omega,fun h0 ad e=>⟨?_,?_⟩,fun p hp=>⟨(h.each p hp).1,(h.each p hp).2.1,by have:=hs p hp;omega,fun h0 ad e=>⟨?_,?_⟩⟩⟩
 ·cases ps with
  | nil=>exact absurd rfl h0
  | cons p r=>exact zf ht h.row (u:=p.val) rfl (by simp) (fun z hz=>by unfold Pt.val at hz;cases hz) ad e
 ·obtain ⟨g,o,e2,hg,_⟩:=lM h.row (by rw [List.length_map];omega) (by omega);rw [e] at e2
  cases e2
  exact hg
 ·have hb:=(h.each p hp).1
  cases hpb:p.b with
  | nil=>rw [hpb] at h0;exact absurd rfl h0
  | cons x r =>
   rw [hpb] at hb;exact zf ht hb (u:=.int .u8 (x.toNat:Int)) rfl (by simp) (fun z hz=>by cases hz) ad e
 ·obtain ⟨g,o,e2,hg,_⟩:=lM (h.each p hp).1 (by simp [bl];omega) (by omega);rw [e] at e2
  cases e2
  exact hg
theorem CV {src:List (List UInt8)} {lsn:Nat} {k:Int} (h:kK src lsn=.error k):k≠0:=by
 unfold kK at h
 split at h
 ·cases h;decide
 ·split at h
  ·rename_i e he
   cases h
   unfold cJ at he
   split at he
   ·rename_i h9;cases he;exact h9
   ·split at he
    ·cases he;decide
    ·split at he
     ·cases he
     ·cases he;decide
  ·split at h
   ·cases h
   ·cases h;decide
theorem CY {src:List (List UInt8)} {lsn:Nat} {t:PT} (hl:lsn<18446744073709551616) (h:kK src lsn=.ok t):t.OK:=by
 unfold kK at h
 split at h
 ·cases h
 ·split at h
  ·cases h
  ·rename_i n hn
   split at h
   ·rename_i h1
    cases h
    unfold cJ at hn
    split at hn
    ·cases hn
    ·split at hn
     ·cases hn
     ·rename_i m hm
      split at hn
      ·rename_i hok
       cases hn
       have he:n.entries<18446744073709551616:=by
        unfold cT at hm
        split at hm
        ·simp only at hm;split at hm
         ·cases hm
          exact Ej _ (by rw [lK];omega)
         ·cases hm
        ·split at hm
         ·simp only at hm;split at hm
          ·cases hm;show (0:Nat)<_;decide
          ·cases hm
         ·split at hm
          ·simp only at hm;split at hm
           ·cases hm;show (0:Nat)<_;decide
           ·cases hm
          ·split at hm
           ·cases hm
           ·split at hm
            ·cases hm
            ·cases hm;show (0:Nat)<_;decide
       unfold aD at hok;rw [if_pos h1] at hok;have hh:o4 n=true:=(Bool.and_eq_true _ _ ▸ hok:_/\_).2;have hh:=of_decide_eq_true hh;exact ⟨hl,hh,he,fun x hx=>(by cases hx),List.nodup_nil⟩
      ·cases hn
   ·cases h
end Go.Proofs.YtgohffhoapkeaaaGreatDoor
namespace Go.Proofs.YtgohffhoapkeaaaGreatDoor.Ev
open Go.RowKit
variable {ω:Nat->Value}
inductive T (α:Type) where
 | leaf
 | node (v:Option α) (l r:T α)
namespace T
variable {α:Type}
inductive vF where
 | e
 | l (p:vF)
 | r (p:vF)
noncomputable def FI (f:Nat):Nat->vF :=
 Nat.rec (motive:=fun _=>Nat->vF) (fun _=>.e) (fun _ ih n=>Nat.rec (motive:=fun _=>vF) .e (fun m _=>Bool.rec (motive:=fun _=>vF) (.r (ih (Nat.div m 2))) (.l (ih (Nat.div m 2))) (Nat.beq (Nat.mod m 2) 0)) n) f
noncomputable def way (n:Nat):vF:=FI (Nat.succ n) n
noncomputable def cJ (t:T α):vF->Option α :=
 T.rec (motive:=fun _=>vF->Option α) (fun _=>none) (fun v _ _ gl gr p=>vF.rec (motive:=fun _=>Option α) v (fun q _=>gl q) (fun q _=>gr q) p) t
noncomputable def Ge (v:α) (p:vF):T α->T α :=
 vF.rec (motive:=fun _=>T α->T α)
  (fun t=>T.rec (motive:=fun _=>T α) (.node (some v) .leaf .leaf) (fun _ l r _ _=>.node (some v) l r) t)
  (fun _ ih t=>T.rec (motive:=fun _=>T α) (.node none (ih .leaf) .leaf) (fun x l r _ _=>.node x (ih l) r) t)
  (fun _ ih t=>T.rec (motive:=fun _=>T α) (.node none .leaf (ih .leaf)) (fun x l r _ _=>.node x l (ih r)) t) p
noncomputable def get (t:T α) (n:Nat):Option α:=cJ t (way n)
noncomputable def put (t:T α) (n:Nat) (v:α):T α:=Ge v (way n) t
theorem db (v:α):∀ (p:vF) (t:T α),cJ (Ge v p t) p=some v
 | .e,.leaf=>rfl
 | .e,.node _ _ _=>rfl
 | .l p,.leaf=>db v p .leaf
 | .l p,.node _ l _=>db v p l
 | .r p,.leaf=>db v p .leaf
 | .r p,.node _ _ r=>db v p r
theorem cy (v:α):∀ (p q:vF) (t:T α),q≠p->cJ (Ge v p t) q=cJ t q
 | .e,.e,_,h=>absurd rfl h
 | .e,.l _,.leaf,_=>rfl
 | .e,.r _,.leaf,_=>rfl
 | .e,.l _,.node _ _ _,_=>rfl
 | .e,.r _,.node _ _ _,_=>rfl
 | .l _,.e,.leaf,_=>rfl
 | .l _,.e,.node _ _ _,_=>rfl
 | .l _,.r _,.leaf,_=>rfl
 | .l _,.r _,.node _ _ _,_=>rfl
 | .r _,.e,.leaf,_=>rfl
 | .r _,.e,.node _ _ _,_=>rfl
 | .r _,.l _,.leaf,_=>rfl
 | .r _,.l _,.node _ _ _,_=>rfl
 | .l p,.l q,.leaf,h=>cy v p q .leaf (fun e=>h (by rw [e]))
 | .l p,.l q,.node _ l _,h=>cy v p q l (fun e=>h (by rw [e]))
 | .r p,.r q,.leaf,h=>cy v p q .leaf (fun e=>h (by rw [e]))
 | .r p,.r q,.node _ _ r,h=>cy v p q r (fun e=>h (by rw [e]))
def num:vF->Nat
 | .e=>0
 | .l p=>2*num p+1
 | .r p=>2*num p+2
theorem tG:∀ (f n:Nat),n<f->num (FI f n)=n
 | 0,_,h=>absurd h (by omega)
 | _+1,0,_=>rfl
 | f+1,m+1,h=>by
  show num (Bool.rec (motive:=fun _=>vF) (.r (FI f (Nat.div m 2))) (.l (FI f (Nat.div m 2))) (Nat.beq (Nat.mod m 2) 0))=m+1;have ih:=tG f (Nat.div m 2) (Nat.lt_of_le_of_lt (Nat.div_le_self m 2) (by omega));have hd:Nat.div m 2=m / 2:=rfl
  cases hb:Nat.beq (Nat.mod m 2) 0
  ·have:=Nat.ne_of_beq_eq_false hb;have hm:Nat.mod m 2=m % 2:=rfl;show 2*num (FI f (Nat.div m 2))+2=m+1;rw [ih];omega
  ·have:=bE hb;have hm:Nat.mod m 2=m % 2:=rfl;show 2*num (FI f (Nat.div m 2))+1=m+1;rw [ih];omega
theorem Gf {i j:Nat} (h:j≠i):way j≠way i:=fun e=>h (by
 have h1:=tG (j+1) j (by omega);have h2:=tG (i+1) i (by omega);have e':FI (j+1) j=FI (i+1) i:=e
 rw [e'] at h1;omega)
theorem get_put (t:T α) (i j:Nat) (v:α):(t.put i v).get j=if j=i then some v else t.get j:=by
 unfold put get;by_cases h:j=i
 ·subst h;rw [if_pos rfl];exact db v _ _
 ·rw [if_neg h];exact cy v _ _ _ (Gf h)
noncomputable def bH:List α->Nat->T α->T α
 | [],_,t=>t
 | v::vs,i,t=>bH vs (i+1) (t.put i v)
theorem br:∀ (l:List α) (i:Nat) (t:T α) (j:Nat),(bH l i t).get j=if i<=j/\j<i+l.length then l[j-i]? else t.get j
 | [],i,t,j=>by simp [bH];omega
 | v::vs,i,t,j=>by
  rw [bH,br vs (i+1) _ j,get_put];simp only [List.length_cons];by_cases h1:j=i
  ·subst h1;rw [if_neg (by omega),if_pos rfl,if_pos (by omega),Nat.sub_self];rfl
  ·by_cases h2:i+1<=j/\j<i+1+vs.length
   ·rw [if_pos h2,if_pos (by omega),show j-i=(j-(i+1))+1 by omega];rfl
   ·rw [if_neg h2,if_neg h1,if_neg (by omega)]
noncomputable def range (t:T α) (i:Nat):Nat->Option (List α)
 | 0=>some []
 | n+1=>match t.get i with
  | none=>none
  | some v=>match range t (i+1) n with
   | none=>none
   | some l=>some (v::l)
theorem iy (t:T α):∀ (n i:Nat) (l:List α),t.range i n=some l->l.length=n/\∀ k,k<n->t.get (i+k)=l[k]?
 | 0,i,l,h=>by cases h;exact ⟨rfl,fun k hk=>absurd hk (by omega)⟩
 | n+1,i,l,h=>by
  simp only [range] at h
  cases h1:t.get i with
  | none=>simp [h1] at h
  | some v =>
   cases h2:t.range (i+1) n with
   | none=>simp [h1,h2] at h
   | some l' =>
    simp [h1,h2] at h;subst h;obtain ⟨hl,hg⟩:=iy t n (i+1) l' h2;refine ⟨by simp [hl],fun k hk=>?_⟩
    cases k with
    | zero=>simpa using h1
    | succ k =>
     have:=hg k (by omega);rw [List.getElem?_cons_succ,<-this];congr 1;omega
end T
structure eP where
 r:Nat
 d:Nat
 len:Nat
 esz:Nat
 opn:Bool
 tot:Nat
def M (_:Nat->Value):=Nat->Option eP
def am:Value->Bool
 | .bool _ | .int _ _ | .float _ _ | .complex _ _ _ | .string _ | .nilFunc | .nilIface | .pointer none | .slice none 0 0 | .map none=>true
 | _=>false
def iz (m:M ω) (a a':Addr):Prop:=a.spot=none/\∃ i,m a.block=some i/\a'=⟨i.r,i.d+a.off,none⟩
def AZ (m:M ω) (a:Addr) (c c':Nat):Prop:=c=c'\/(c<=c'/\∃ i,m a.block=some i/\i.opn=true/\a.off+c*i.esz=i.len/\i.d+a.off+c'*i.esz<=i.tot)
def de:Value->Bool
 | .agg _ | .tuple _=>false
 | _=>true
inductive VRel (m:M ω):Value->Value->Prop
 | tok (k:Nat) (h:de (ω k)=true):VRel m (.chan (some k)) (ω k)
 | any (v:Value) (h:de v=true):VRel m (.chan none) v
 | plain (v:Value) (h:am v=true):VRel m v v
 | ptr (a a':Addr) (h:iz m a a'):VRel m (.pointer (some a)) (.pointer (some a'))
 | slice (a a':Addr) (n c c':Nat) (h:iz m a a') (hc:AZ m a c c') (hn:n<=c):VRel m (.slice (some a) n c) (.slice (some a') n c')
 | slice0 (a a':Addr) (h:∃ i,m a.block=some i):VRel m (.slice (some a) 0 0) (.slice (some a') 0 0)
 | map (b:Nat) (i:eP) (h:m b=some i):VRel m (.map (some b)) (.map (some i.r))
 | iface (t:TypeId) (v v':Value) (h:VRel m v v'):VRel m (.iface t v) (.iface t v')
 | agg (cs cs':Array Value) (hs:cs.size=cs'.size) (h:∀ i,i<cs.size->VRel m (cs.getD i undef) (cs'.getD i undef)):VRel m (.agg cs) (.agg cs')
 | tuple (cs cs':Array Value) (hs:cs.size=cs'.size) (h:∀ i,i<cs.size->VRel m (cs.getD i undef) (cs'.getD i undef)):VRel m (.tuple cs) (.tuple cs')
 | func (f:FuncId) (fs fs' cs cs':Array Value) (h1:fs.size=fs'.size) (h2:cs.size=cs'.size) (h:∀ i,i<fs.size->VRel m (fs.getD i undef) (fs'.getD i undef)) (k:∀ i,i<cs.size->VRel m (cs.getD i undef) (cs'.getD i undef)):VRel m (.func (.func f) fs cs) (.func (.func f) fs' cs')
 | yield (b:Nat) (i:eP) (h:m b=some i):VRel m (.func (.yield b) #[] #[]) (.func (.yield i.r) #[] #[])
def Le (m m':M ω):Prop:=∀ b i,m b=some i->m' b=some i
theorem Le.refl (m:M ω):Le m m:=fun _ _ h=>h
theorem Le.trans {a b c:M ω} (h:Le a b) (k:Le b c):Le a c:=fun i x hx=>k i x (h i x hx)
theorem iz.mono {m m':M ω} {a a':Addr} (h:iz m a a') (hl:Le m m'):iz m' a a':=⟨h.1,h.2.elim fun i hi=>⟨i,hl _ _ hi.1,hi.2⟩⟩
theorem AZ.mono {m m':M ω} {a:Addr} {c c':Nat} (h:AZ m a c c') (hl:Le m m'):AZ m' a c c' :=
 h.imp id fun ⟨h1,i,h2,h3⟩=>⟨h1,i,hl _ _ h2,h3⟩
theorem VRel.mono {m m':M ω} (hl:Le m m') {v v':Value} (h:VRel m v v'):VRel m' v v':=by
 induction h with
 | tok k h=>exact .tok k h
 | any v h=>exact .any v h
 | plain v h=>exact .plain v h
 | ptr a a' h=>exact .ptr a a' (h.mono hl)
 | slice a a' n c c' h hc hn=>exact .slice a a' n c c' (h.mono hl) (hc.mono hl) hn
 | slice0 a a' h=>exact .slice0 a a' (h.imp fun i hi=>hl _ _ hi)
 | map b i h=>exact .map b i (hl _ _ h)
 | iface t v v' _ ih=>exact .iface t v v' ih
 | agg cs cs' hs _ ih=>exact .agg cs cs' hs ih
 | tuple cs cs' hs _ ih=>exact .tuple cs cs' hs ih
 | func f fs fs' cs cs' h1 h2 _ _ ih1 ih2=>exact .func f fs fs' cs cs' h1 h2 ih1 ih2
 | yield b i h=>exact .yield b i (hl _ _ h)
structure aa where
 c:T Value
 len:Nat
 elem:TypeId
 esz:Nat
 opn:Bool
 str:Bool
def noMark:Nat:=117
inductive Ha where
 | ready
 | busy
 | done (c:Code)
 | over
inductive AObj where
 | cells (b:aa)
 | map (es:List MapEntry) (clock:Nat)
 | loop (t:T Value) (n:Nat) (ps:List Tmp) (assign body:Code) (st:Ha)
 | mit (b:Option Nat) (since:Nat) (seen:List Nat) (last:Nat)
 | sit (s:ByteArray) (pos:Nat)
 | dead
structure AS where
 n:Nat
 h:T AObj
def AObj.alive:AObj->Bool
 | .dead=>false
 | _=>true
def xK (m:M ω) (e e':MapEntry):Prop:=e.key=e'.key/\am e.key=true/\VRel m e.val e'.val/\e.born=e'.born
def Ha.is (l:Ha) (r:Loop):Prop:=match l with
 | .ready=>r.state=.ready/\r.pending=none
 | .busy=>r.state=.busy
 | .done c=>r.state=.done/\r.pending=some c
 | .over=>True
def gD (m:M ω) (w:World) (i:eP):AObj->Prop
 | .cells b=>i.len=b.len/\i.opn=b.opn/\i.esz=b.esz/\i.d+b.len<=i.tot/\∃ c' fz,w.heap[i.r]?=some (.cells c' b.elem fz)/\c'.size=i.tot /\
  (∀ j,j<b.len->∃ v v',b.c.get j=some v/\c'[i.d+j]?=some v'/\VRel m v v')/\(fz=(0,0)\/(fz=(i.tot,i.tot+1)/\Nat.beq b.elem noMark=false))
 | .map es clock=>∃ es':List MapEntry,w.heap[i.r]?=some (.map es'.toArray clock)/\es.length=es'.length/\∀ (k:Nat) (e e':MapEntry),es[k]?=some e->es'[k]?=some e'->xK m e e'
 | .loop t n ps asg bd st=>∃ r:Loop,w.heap[i.r]?=some (.loop r)/\r.params=ps.toArray/\r.assign=asg/\r.body=bd/\r.tmps.size=n/\st.is r/\∀ k,VRel m ((t.get k).getD undef) (r.tmps.getD k undef)
 | .mit b since seen last=>i.d=0/\∃ r',w.heap[i.r]?=some (.mapIter r' since seen.toArray last)/\((b=none/\r'=none)\/∃ c j,b=some c/\m c=some j/\r'=some j.r)
 | .sit q pos=>i.d=0/\w.heap[i.r]?=some (.stringIter q pos)
 | .dead=>True
structure cK where
 G:Nat->Option AObj
 K:Nat->Option Obj
structure SR (B:Nat) (X:cK) (m:M ω) (s:AS) (w:World):Prop where
 rel:∀ b o i,s.h.get b=some o->o.alive=true->m b=some i->gD m w i o/\B<=i.r/\i.r<w.heap.size
 inj:∀ b c o p i j,s.h.get b=some o->s.h.get c=some p->o.alive=true->p.alive=true->b≠c->m b=some i->m c=some j->i.r≠j.r
 freshH:∀ b,s.n<=b->s.h.get b=none
 freshM:∀ b,s.n<=b->m b=none
 gh:∀ b o,X.G b=some o->s.h.get b=some o/\m b=none
 kp:∀ r o,X.K r=some o->w.heap[r]?=some o/\B<=r/\∀ b i,m b=some i->i.r≠r
 lt:∀ b i,m b=some i->i.r<w.heap.size
end Go.Proofs.YtgohffhoapkeaaaGreatDoor.Ev
namespace Go.Proofs.YtgohffhoapkeaaaGreatDoor.Ev
open Go.RowKit
variable {ω:Nat->Value}
noncomputable section
def bi:Value->Bool
 | .agg cs=>cs.toList.all am
 | .iface _ v=>am v
 | v=>am v
structure Ctx where
 P:Program
 fn:FuncId->Option Func
 ty:TypeId->Option TypeInfo
 un:TypeId->Option TypeDesc
 sp:FuncId->Option (List Value->AS->Option (Value × AS))
 glob:Nat->Option Value
 meth:TypeId->String->Value->Option (FuncId × Value)
 bin:BinOp->TypeId->Value->Value->Option Value
 len:TypeId->Value->Option Value
 cnv:TypeId->TypeId->Value->Option Value
 rd:Nat->Bool
 iv:Nat->Option (Array Value)
inductive R where
 | val (v:Value)
 | skip
 | call (f:FuncId) (args:List Value)
 | round (b:Nat) (args:List Value)
def eG (P:Program) {α:Type}:Sem α->Option α
 | .pure a=>some a
 | .program k=>eG P (k P)
 | _=>none
def jK (o:Option Value):Option Value:=Option.rec (motive:=fun _=>Option Value) (some undef) (fun v=>some v) o
def tH (v:Value):Option Value:=Bool.rec (motive:=fun _=>Option Value) none (some v) (bi v)
def aQ (a:T Value) (x:Operand):Option Value :=
 Operand.rec (motive:=fun _=>Option Value) (fun t=>jK (a.get t)) tH (fun _=>none) (fun f=>some (.func (.func f) #[] #[])) x
def fe (a:T Value):List Operand->Option (List Value)
 | []=>some []
 | x::xs=>match aQ a x,fe a xs with
  | some v,some vs=>some (v::vs)
  | _,_=>none
def cellsOf:Value->List Value
 | .agg cs=>cs.toList
 | v=>[v]
def pJ (s:AS) (l:List Value) (n:Nat) (e:TypeId) (z:Nat) (opn str:Bool):Nat × AS :=
 (s.n,⟨s.n+1,s.h.put s.n (.cells ⟨T.bH l 0 .leaf,n,e,z,opn,str⟩)⟩)
def fQ (s:AS) (b:Nat):Option aa:=match s.h.get b with
 | some (.cells k)=>some k
 | _=>none
def cq (s:AS) (a:Addr) (n:Nat):Option (List Value) :=
 match a.spot,fQ s a.block with
 | none,some k=>cond (Nat.ble (a.off+n) k.len) (k.c.range a.off n) none
 | _,_=>none
def eY (s:AS) (a:Addr) (l:List Value):Option AS :=
 match a.spot,fQ s a.block with
 | none,some k=>cond (Nat.ble (a.off+l.length) k.len && l.all de) (some ⟨s.n,s.h.put a.block (.cells {k with c:=T.bH l a.off k.c})⟩) none
 | _,_=>none
def tI:Value->Bool
 | .tuple _=>true
 | _=>false
def lN (C:Ctx) (t:TypeId):Option (List Value):=match C.ty t with
 | some i=>match i.zero with
  | some z=>cond (tI z) none (some (cellsOf z))
  | none=>none
 | none=>none
def CZ:TypeDesc->Bool
 | .struct _ | .array _ _=>true
 | _=>false
def fT (C:Ctx) (t:TypeId):Option Bool:=match C.un t with
 | some d=>some (CZ d)
 | none=>none
def cA (C:Ctx) (t:TypeId):Option Nat:=match C.ty t with
 | some i=>some i.size
 | none=>none
def pK (place:Nat->Option (Nat × Nat)):T Value->Nat->List (Nat × Value)->Option (T Value)
 | t,_,[]=>some t
 | t,n,(i,v)::rest=>match place i with
  | none=>none
  | some (off,size)=>cond (Nat.beq (cellsOf v).length size && Nat.ble (off+(cellsOf v).length) n) (pK place (T.bH (cellsOf v) off t) n rest) none
def parts (a:T Value):List (Nat × Operand)->Option (List (Nat × Value))
 | []=>some []
 | (i,x)::xs=>match aQ a x,parts a xs with
  | some v,some vs=>some ((i,v)::vs)
  | _,_=>none
def df:Nat->List Value->List Value
 | 0,_=>[]
 | n+1,l=>l++df n l
def fieldAt (fs:List Field) (i:Nat):Option Field:=fs[i]?
def bound (v:Value):Option Int:=match v with
 | .int _ n=>some n
 | _=>none
def B6 (a:T Value):Option Operand->Option (Option Int)
 | none=>some none
 | some x=>match aQ a x with
  | some (.int _ n)=>some (some n)
  | _=>none
def AF (v:Int) (y:Nat):Option Nat:=if 0<=v/\v<=y then some v.toNat else none
def fU (h m:Nat):Option Int->Option (Nat × Nat × Nat)
 | none=>some (0,h,m)
 | some v=>match AF v h with
  | some i=>some (i,h,m)
  | none=>none
def ky (n m:Nat) (lo:Option Int):Option Int->Option (Nat × Nat × Nat)
 | none=>fU n m lo
 | some v=>match AF v m with
  | some h=>fU h m lo
  | none=>none
def cut (n c:Nat) (lo hi:Option Int):Option Int->Option (Nat × Nat × Nat)
 | none=>ky n c lo hi
 | some v=>match AF v c,hi with
  | some m,some u=>ky 0 m lo (some u)
  | _,_=>none
def lO (s:AS) (size:Nat):Value->Option (Nat × List Value)
 | .slice none 0 0=>some (0,[])
 | .slice (some a) n _=>match cq s a (n*size) with
  | some l=>some (n,l)
  | none=>none
 | .string b=>some (b.size,b.data.toList.map fun x=>.int .u8 x.toNat)
 | _=>none
def grown (s:AS) (l:List Value) (n:Nat) (e:TypeId) (z:Nat):Option (R × AS) :=
 let (b,s'):=pJ s l l.length e z true false
 some (.val (.slice (some ⟨b,0,none⟩) n n),s')
def jL (ti:TypeInfo):Bool:=match ti.zero with
 | some z=>!tI z
 | none=>false
def vG (s:AS) (a:Addr) (n c m size:Nat) (e:TypeId) (new:List Value):Option (R × AS) :=
 cond (Nat.ble (n+m) c)
  (
   match eY s ⟨a.block,a.off+n*size,a.spot⟩ new with
   | some s'=>some (.val (.slice (some a) (n+m) c),s')
   | none=>none)
  (
   match cq s a (n*size),fQ s a.block with
   | some old,some k=>cond k.opn
    (cond (Nat.beq k.esz size)
     (cond (Nat.beq (a.off+c*size) k.len)
      (cond (Nat.beq k.elem e) (grown ⟨s.n,s.h.put a.block .dead⟩ (old++new) (n+m) e size) none)
      (grown s (old++new) (n+m) e size))
     none)
    (grown s (old++new) (n+m) e size)
   | _,_=>none)
def FJ:Value->Bool
 | .slice _ _ _=>true
 | _=>false
def xL (C:Ctx) (e:TypeId) (size:Nat) (dx:TypeDesc) (y:Value) (s:AS):Option (Nat × List Value) :=
 match dx with
 | .int _=>(match y,lN C e with
  | .int _ k,some z=>if 0<=k/\k<=1000000 then some (k.toNat,df k.toNat z) else none
  | _,_=>none)
 | .slice _=>cond (FJ y) (lO s size y) none
 | .string=>cond (Nat.beq size 1) (lO s size y) none
 | _=>none
def lP (s:AS) (x:Value) (m size:Nat) (e:TypeId) (new:List Value):Option (R × AS) :=
 match x with
 | .slice none 0 0=>cond (Nat.beq m 0) (some (.val x,s)) (cond (Nat.ble m 1000000) (grown s new m e size) none)
 | .slice (some a) n c=>cond (Nat.ble (n+m) 1000000) (vG s a n c m size e new) none
 | _=>none
def xN (s:AS):Value->Bool
 | .slice (some a) 0 0=>match fQ s a.block with
  | some q=>!q.opn
  | none=>false
 | _=>false
def mV (C:Ctx) (t tx:TypeId) (x:Value) (k:Nat) (s:AS):Option (R × AS) :=
 match C.un t,C.un tx with
 | some (.slice e),some (.slice _)=>match C.ty e with
  | some ti=>cond (C.rd k && (xN s x && (Nat.beq ti.size 1 && (Nat.ble ti.bytes 1000000 && jL ti)))) (match C.len tx (.chan (some k)) with
   | some (.int .i64 (.ofNat n))=>lP s x n ti.size e (df n [.chan none])
   | _=>some (.val (.chan none),s)) none
  | none=>none
 | _,_=>none
def zg (C:Ctx) (t tx:TypeId) (x y:Value) (s:AS):Option (R × AS) :=
 match C.un t with
 | some (.slice e)=>match C.ty e,C.un tx with
  | some ti,some dx=>cond (Nat.ble ti.bytes 1000000) (match xL C e ti.size dx y s with
   | some (m,new)=>cond (new.all de && jL ti) (lP s x m ti.size e new) none
   | none=>none) none
  | _,_=>none
 | _=>none
def Hz (k:Value):List MapEntry->Nat->Option (Nat × Value)
 | [],_=>none
 | e::es,i=>match Instr.sameNow .string k e.key with
  | some true=>some (i,e.val)
  | _=>Hz k es (i+1)
def plainKey (d:TypeDesc):Value->Bool
 | .int _ _=>match d with | .int _=>true | _=>false
 | .string _=>match d with | .string=>true | _=>false
 | .bool _=>match d with | .bool=>true | _=>false
 | _=>false
def C0 (d:TypeDesc) (k:Value) (es:List MapEntry):Option (Option (Nat × Value)):=Instr.findNow d k es 0
def addrOf:Value->Option Addr
 | .pointer (some a)=>some a
 | _=>none
def ID (C:Ctx) (t:TypeId) (x y:Value):Option Bool :=
 match C.un t with
 | some (.pointer e)=>(match x,y with
  | .pointer none,.pointer (some _)=>some false
  | .pointer (some _),.pointer none=>some false
  | .pointer (some a),.pointer (some b)=>cond (Nat.beq a.block b.block && Nat.beq a.off b.off) (match cA C e with | some _=>some true | none=>none) none
  | _,_=>none)
 | some (.slice _)=>(match x,y with
  | .slice none 0 0,.slice (some _) _ _=>some false
  | .slice (some _) _ _,.slice none 0 0=>some false
  | _,_=>none)
 | some (.map _ _)=>(match x,y with
  | .map none,.map (some _)=>some false
  | .map (some _),.map none=>some false
  | _,_=>none)
 | some (.interface _)=>(match x,y with
  | .nilIface,.iface _ _=>some false
  | .iface _ _,.nilIface=>some false
  | .iface p _,.iface q _=>cond (Nat.beq p q) none (some false)
  | _,_=>none)
 | some (.func _ _ _)=>(match x,y with
  | .nilFunc,.func _ _ _=>some false
  | .func _ _ _,.nilFunc=>some false
  | _,_=>none)
 | _=>none
def iA (k:IntKind):Nat:=IntKind.casesOn k 256 65536 4294967296 18446744073709551616 256 65536 4294967296 18446744073709551616
def kg (k:IntKind):Nat:=IntKind.casesOn k 128 32768 2147483648 9223372036854775808 256 65536 4294967296 18446744073709551616
def xO (k:IntKind):Bool:=IntKind.casesOn k true true true true false false false false
def wrapN (k:IntKind) (n:Nat):Int:=cond (Nat.blt n (kg k)) (.ofNat n) (cond (xO k) (k.wrap n) (.ofNat (Nat.mod n (iA k))))
def Gg (k:IntKind) (a b:Nat):Option Value:=some (.int k (wrapN k (a+b)))
def Gh (k:IntKind) (a b:Nat):Option Value:=some (.int k (cond (Nat.ble b a) (wrapN k (a-b)) (cond (xO k) (k.wrap (Int.negSucc (b-a-1))) (.ofNat (Nat.mod (Nat.mul (iA k) b+a-b) (iA k))))))
def Gi (k:IntKind) (a b:Nat):Option Value:=some (.int k (wrapN k (a*b)))
def C2 (k:IntKind) (a b:Nat):Option Value:=cond (Nat.beq b 0) none (some (.int k (wrapN k (Nat.div a b))))
def C3 (k:IntKind) (a b:Nat):Option Value:=cond (Nat.beq b 0) none (some (.int k (.ofNat (Nat.mod a b))))
def jf (k:IntKind) (a b:Nat) (v:Option Value):Option Value:=cond (Nat.blt a (kg k)) (cond (Nat.blt b (kg k)) v none) none
def IS (k:IntKind) (a b:Nat):Option Value:=jf k a b (some (.int k (.ofNat (Nat.land a b))))
def Jo (k:IntKind) (a b:Nat):Option Value:=jf k a b (some (.int k (.ofNat (Nat.lor a b))))
def IU (k:IntKind) (a b:Nat):Option Value:=jf k a b (some (.int k (.ofNat (Nat.xor a b))))
def Gj (_:IntKind) (a b:Nat):Option Value:=some (.bool (Nat.beq a b))
def Gk (_:IntKind) (a b:Nat):Option Value:=some (.bool (Bool.not (Nat.beq a b)))
def Gl (_:IntKind) (a b:Nat):Option Value:=some (.bool (Nat.blt a b))
def Gm (_:IntKind) (a b:Nat):Option Value:=some (.bool (Nat.ble a b))
def Gn (_:IntKind) (a b:Nat):Option Value:=some (.bool (Nat.blt b a))
def Gp (_:IntKind) (a b:Nat):Option Value:=some (.bool (Nat.ble b a))
def uI (_:IntKind) (_ _:Nat):Option Value:=none
def IE (op:BinOp):IntKind->Nat->Nat->Option Value :=
 BinOp.casesOn op Gg Gh Gi C2 C3 IS Jo IU uI uI uI Gj Gk Gl Gm Gn Gp
def Gq (k:IntKind) (a n:Nat):Option Value:=some (.int k (wrapN k (Nat.mul a (Nat.pow 2 (Nat.min n k.bits)))))
def Gr (k:IntKind) (a n:Nat):Option Value:=some (.int k (.ofNat (Nat.div a (Nat.pow 2 (Nat.min n k.bits)))))
def Je (op:BinOp):IntKind->Nat->Nat->Option Value :=
 BinOp.casesOn op uI uI uI uI uI uI uI uI Gq Gr uI uI uI uI uI uI uI
def zh (op:BinOp):Bool:=BinOp.casesOn op false false false false false false false false true true false false false false false false false
def zi (C:Ctx) (op:BinOp) (t:TypeId) (ox oy:Operand) (x y:Value):Option Value :=
 match eG C.P (do eqGuard op t ox oy x y;binOp op t x y) with
 | some v=>cond (am v) (some v) none
 | none=>none
def C4 (C:Ctx) (op:BinOp) (t:TypeId) (x y:Value):Option Value :=
 match ID C t x y with
 | some b=>BinOp.casesOn op none none none none none none none none none none none (some (.bool b)) (some (.bool (Bool.not b))) none none none none
 | none=>none
def tJ (C:Ctx) (op:BinOp) (t:TypeId) (x y:Value):Option Value :=
 match C4 C op t x y with
 | some v=>some v
 | none=>C.bin op t x y
def pM (C:Ctx) (op:BinOp) (t:TypeId) (ox oy:Operand) (x y:Value):Option Value :=
 cond (bi x) (cond (bi y) (zi C op t ox oy x y) (tJ C op t x y)) (tJ C op t x y)
def xP (j k:IntKind):Bool:=decide (j=k)
def C5 (C:Ctx) (op:BinOp) (t:TypeId) (ox oy:Operand) (k:IntKind) (a:Nat) (y:Value):Option Value :=
 match y with
 | .int k' (.ofNat b)=>cond (zh op) (Je op k a b) (cond (xP k k') (match IE op k a b with
  | some v=>some v
  | none=>pM C op t ox oy (.int k (.ofNat a)) y) none)
 | _=>pM C op t ox oy (.int k (.ofNat a)) y
def EM (C:Ctx) (op:BinOp) (t:TypeId) (ox oy:Operand) (x y:Value):Option Value :=
 match x with
 | .int k (.ofNat a)=>C5 C op t ox oy k a y
 | _=>pM C op t ox oy x y
def bytesOf:List Value->Option (List UInt8)
 | []=>some []
 | .int .u8 n::r=>match bytesOf r with
  | some l=>some (UInt8.ofNat n.toNat::l)
  | none=>none
 | _=>none
def tK (k:IntKind) (x:Value) (s:AS):Option (Value × AS) :=
 match x with
 | .int _ (.ofNat m)=>some (.int k (wrapN k m),s)
 | .int _ (.negSucc m)=>some (.int k (k.wrap (.negSucc m)),s)
 | _=>none
def re:Option TypeDesc->Bool
 | some (.int .u8)=>true
 | _=>false
def tL (C:Ctx) (d:TypeDesc) (x:Value) (s:AS):Option (Value × AS) :=
 match x,d with
 | .string b,_=>some (.string b,s)
 | .slice none 0 0,.slice e=>cond (re (C.un e)) (some (.string .empty,s)) none
 | .slice (some a) n _,.slice e=>cond (re (C.un e)) (match cq s a n with
  | some l=>match bytesOf l with
   | some bs=>some (.string ⟨bs.toArray⟩,s)
   | none=>none
  | none=>none) none
 | _,_=>none
def xQ (C:Ctx) (d:TypeDesc) (e:TypeId) (same:Bool) (x:Value) (s:AS):Option (Value × AS) :=
 match x,d with
 | .slice (some a) n c,.slice _=>cond (same && re (C.un e) && Nat.blt 0 c) (match fQ s a.block with
  | some k=>cond (Nat.beq k.elem noMark) none (some (.slice (some a) n c,s))
  | none=>none) none
 | _,_=>none
def tM (C:Ctx) (src dst:TypeId) (x:Value) (s:AS):Option (Value × AS) :=
 match C.cnv src dst x with
 | some v=>some (v,s)
 | none=>none
def isChan:Value->Bool
 | .chan _=>true
 | _=>false
def zj (C:Ctx) (src dst:TypeId) (x:Value) (s:AS):Option (Value × AS) :=
 cond (isChan x) (tM C src dst x s) (match C.un src with
 | some d=>match C.un dst with
  | some (.int k)=>tK k x s
  | some .string=>tL C d x s
  | some (.slice e)=>xQ C d e (Nat.beq src dst) x s
  | _=>none
 | none=>none)
def pO (C:Ctx) (ts:List TypeId) (vs:List Value) (s:AS):Option (R × AS) :=
 match ts,vs with
 | [t,tx],[x,.chan (some k)]=>mV C t tx x k s
 | [t,tx],[x,y]=>zg C t tx x y s
 | _,_=>none
def xR (C:Ctx) (t:TypeId) (x:Value) (s:AS):Option (R × AS) :=
 match C.len t x with
 | some v=>some (.val v,s)
 | none=>none
def zk (C:Ctx) (ts:List TypeId) (vs:List Value) (s:AS):Option (R × AS) :=
 match ts,vs with
 | [t],[.chan k]=>xR C t (.chan k) s
 | [t],[x]=>match C.un t with
  | some (.slice _)=>match x with
   | .slice _ n _=>some (.val (.int .i64 n),s)
   | _=>none
  | some .string=>match x with
   | .string b=>some (.val (.int .i64 b.size),s)
   | _=>none
  | some (.map _ _)=>match x with
   | .map none=>some (.val (.int .i64 0),s)
   | .map (some r)=>match s.h.get r with
    | some (.map es _)=>some (.val (.int .i64 es.length),s)
    | _=>none
   | _=>none
  | some (.array n _)=>some (.val (.int .i64 n),s)
  | some (.pointer e)=>match C.un e with
   | some (.array n _)=>some (.val (.int .i64 n),s)
   | _=>none
  | _=>none
 | _,_=>none
def zl (C:Ctx) (ts:List TypeId) (vs:List Value) (s:AS):Option (R × AS) :=
 match ts,vs with
 | [t],[x]=>match C.un t with
  | some (.slice e)=>match x with
   | .slice none 0 0=>some (.val (.int .i64 0),s)
   | .slice (some a) _ c=>match fQ s a.block,cA C e with
    | some k,some size=>cond k.opn (cond (Nat.beq k.esz size) (cond (Nat.beq (a.off+c*size) k.len) none (some (.val (.int .i64 c),s))) none) (some (.val (.int .i64 c),s))
    | _,_=>none
   | _=>none
  | _=>none
 | _,_=>none
def xS (s:AS) (a:Addr) (n size:Nat) (y:Value):Option (R × AS) :=
 match y with
 | .slice none 0 0=>some (.val (.int .i64 0),s)
 | .slice (some b) m _=>match cq s b (Nat.min m n*size) with
  | some l=>match eY s a l with
   | some s'=>some (.val (.int .i64 (Nat.min m n)),s')
   | none=>none
  | none=>none
 | .string q=>match eY s a ((q.data.toList.take (Nat.min q.size n)).map fun x=>.int .u8 x.toNat) with
  | some s'=>some (.val (.int .i64 (Nat.min q.size n)),s')
  | none=>none
 | _=>none
def zm (s:AS) (y:Value):Option (R × AS) :=
 match y with
 | .slice _ _ _=>some (.val (.int .i64 0),s)
 | .string _=>some (.val (.int .i64 0),s)
 | _=>none
def xU (C:Ctx) (ts:List TypeId) (vs:List Value) (s:AS):Option (R × AS) :=
 match ts,vs with
 | [t,_],[x,y]=>match C.un t with
  | some (.slice e)=>match cA C e with
   | some size=>match x with
    | .slice none 0 0=>zm s y
    | .slice (some a) n _=>xS s a n size y
    | _=>none
   | none=>none
  | _=>none
 | _,_=>none
def pP (C:Ctx) (ts:List TypeId) (vs:List Value) (s:AS):Option (R × AS) :=
 match ts,vs with
 | [t,_],[.map (some r),k]=>match C.un t,s.h.get r with
  | some (.map kt _),some (.map es clock)=>match C.un kt with
   | some d=>cond (plainKey d k) (match C0 d k es with
    | some (some (i,_))=>some (.val (.tuple #[]),⟨s.n,s.h.put r (.map (es.eraseIdx i) clock)⟩)
    | some none=>some (.val (.tuple #[]),⟨s.n,s.h.put r (.map es clock)⟩)
    | none=>none) none
   | none=>none
  | _,_=>none
 | _,_=>none
def tN (C:Ctx) (ts:List TypeId) (vs:List Value) (s:AS):Option (R × AS) :=
 match ts,vs with
 | [t],[.slice (some a) n _]=>match C.un t with
  | some (.slice e)=>match lN C e with
   | some z=>cond (Nat.beq n 0) (some (.val (.tuple #[]),s)) (match eY s a (df n z) with
    | some s'=>some (.val (.tuple #[]),s')
    | none=>none)
   | none=>none
  | _=>none
 | [t],[.slice none 0 0]=>match C.un t with
  | some (.slice _)=>some (.val (.tuple #[]),s)
  | _=>none
 | _,_=>none
def jg (b:Builtin) (C:Ctx) (ts:List TypeId) (vs:List Value) (s:AS):Option (R × AS) :=
 cond (vs.all am) (match eG C.P (builtin b ts.toArray 0 #[] vs.toArray) with
  | some (.value v)=>cond (am v) (some (.val v,s)) none
  | _=>none) none
def Gs (_:Ctx) (_:List TypeId) (_:List Value) (_:AS):Option (R × AS):=none
def pQ (b:Builtin):Ctx->List TypeId->List Value->AS->Option (R × AS) :=
 match b with
 | .append=>pO
 | .len=>zk
 | .cap=>zl
 | .copy=>xU
 | .delete=>pP
 | .clear=>tN
 | .min=>jg .min
 | .max=>jg .max
 | _=>Gs
def lR (C:Ctx) (b:Builtin) (ts:List TypeId) (vs:List Value) (s:AS):Option (R × AS):=pQ b C ts vs s
def iB (x:Operand) (_:Ctx) (a:T Value) (s:AS):Option (R × AS) :=
 Option.rec (motive:=fun _=>Option (R × AS)) none (fun v=>some (.val v,s)) (aQ a x)
def mW (c x y:Operand) (C:Ctx) (a:T Value) (s:AS):Option (R × AS) :=
 match aQ a c,aQ a x,aQ a y with
  | some (.bool b),some v,some u=>some (.val (cond b v u),s)
  | _,_,_=>none
abbrev Al:=AObj × (Nat->Value)
def xV (b:Nat):Value:=.pointer (some ⟨b,0,none⟩)
def IV (n k b:Nat):Value:=.slice (some ⟨b,0,none⟩) n k
def IW (b:Nat):Value:=.map (some b)
def nA (l:List Value) (e:TypeId) (z:Nat) (opn str:Bool):AObj:=.cells ⟨T.bH l 0 .leaf,l.length,e,z,opn,str⟩
def mX (s:AS) (r:Option Al):Option (R × AS) :=
 match r with
 | some (o,f)=>some (.val (f s.n),⟨s.n+1,s.h.put s.n o⟩)
 | none=>none
def lU (t:TypeId) (C:Ctx) (_:T Value):Option Al :=
 match lN C t with
 | some l=>some (nA l t 0 false false,xV)
 | none=>none
def sg (t:TypeId) (x:Operand) (_:Ctx) (a:T Value):Option Al :=
 match aQ a x with
 | some v=>some (nA (cellsOf v) t 0 false false,xV)
 | none=>none
def cL (t:TypeId) (n:Nat) (ps:Array (Nat × Operand)) (C:Ctx) (a:T Value):Option Al :=
 match C.un t,parts a ps.toList with
  | some (.slice e),some l=>match cA C e,lN C e with
   | some sz,some z=>match cond (Nat.ble (n*sz) 16777216) (pK (fun i=>some (i*sz,sz)) (T.bH (df n z) 0 .leaf) (n*sz) l) none with
    | some t'=>some (.cells ⟨t',n*sz,e,0,false,false⟩,IV n n)
    | none=>none
   | _,_=>none
  | _,_=>none
def gU (_:Ctx) (_:T Value):Option Al:=some (.map [] 0,IW)
def dK (t:TypeId) (l c:Operand) (C:Ctx) (a:T Value):Option Al :=
 match C.un t,aQ a l,aQ a c with
  | some (.slice e),some (.int _ n),some (.int _ k)=>match C.ty e,lN C e with
   | some ti,some z=>if 0<=n/\n<=k/\k<=1000000/\ti.bytes<=1000000 then
    some (nA (df k.toNat z) e 0 false false,IV n.toNat k.toNat)
    else none
   | _,_=>none
  | _,_,_=>none
def fW (src dst:TypeId) (x:Operand) (C:Ctx) (a:T Value):Option Al :=
 match C.un src,C.un dst,aQ a x with
 | some .string,some (.slice e),some (.string b)=>cond (re (C.un e) && !Nat.beq e noMark) (some (nA (b.data.toList.map fun x=>.int .u8 x.toNat) e 1 true true,IV b.size b.size)) none
 | _,_,_=>none
def C6 (_:Ctx) (_:T Value):Option Al:=none
def ki (op:Op):Ctx->T Value->Option Al :=
 match op with
 | .alloc t=>lU t
 | .box t x=>sg t x
 | .buildSlice t n ps=>cL t n ps
 | .makeMap _ none=>gU
 | .makeSlice t l c=>dK t l c
 | .convert src dst x=>fW src dst x
 | _=>C6
def jM (t:TypeId) (ps:Array (Nat × Operand)) (C:Ctx) (a:T Value) (s:AS):Option (R × AS) :=
 match lN C t,C.un t,parts a ps.toList with
  | some z,some (.struct fs),some l =>
   match pK (fun i=>match fieldAt fs.toList i with | some f=>(match cA C f.type with | some n=>some (f.offset,n) | none=>none) | none=>none) (T.bH z 0 .leaf) z.length l with
   | some t'=>match t'.range 0 z.length with
    | some cs=>some (.val (.agg cs.toArray),s)
    | none=>none
   | none=>none
  | some z,some (.array _ e),some l=>match cA C e with
   | some n=>match pK (fun i=>some (i*n,n)) (T.bH z 0 .leaf) z.length l with
    | some t'=>match t'.range 0 z.length with
     | some cs=>some (.val (.agg cs.toArray),s)
     | none=>none
    | none=>none
   | none=>none
  | _,_,_=>none
def zo (t:TypeId) (g:Nat) (C:Ctx) (s:AS):Option (R × AS) :=
 match fT C t,C.glob g with
 | some false,some v=>some (.val v,s)
 | _,_=>none
def vH (t:TypeId) (x:Operand) (C:Ctx) (a:T Value) (s:AS):Option (R × AS) :=
 match aQ a x with
  | some (.pointer (some p))=>match fT C t,cA C t with
   | some true,some n=>match cq s p n with
    | some l=>some (.val (.agg l.toArray),s)
    | none=>none
   | some false,_=>match cq s p 1 with
    | some [v]=>some (.val v,s)
    | _=>none
   | _,_=>none
  | _=>none
def C7:Operand->Option Nat
 | .global g=>some g
 | _=>none
def mY (t:TypeId) (x:Operand) (C:Ctx) (a:T Value) (s:AS):Option (R × AS) :=
 match C7 x with
 | some g=>zo t g C s
 | none=>vH t x C a s
def lV (t:TypeId) (x y:Operand) (C:Ctx) (a:T Value) (s:AS):Option (R × AS) :=
 match aQ a x,aQ a y with
  | some (.pointer (some p)),some v=>match cA C t with
   | some n=>cond (Nat.beq (cellsOf v).length n) (match eY s p (cellsOf v) with
    | some s'=>some (.skip,s')
    | none=>none) none
   | none=>none
  | _,_=>none
def ef (x:Operand) (C:Ctx) (a:T Value) (s:AS):Option (R × AS) :=
 match aQ a x with
  | some (.pointer (some p))=>some (.val (.pointer (some p)),s)
  | some (.iface t v)=>some (.val (.iface t v),s)
  | some (.func (.func f) fs cs)=>some (.val (.func (.func f) fs cs),s)
  | some (.slice p n c)=>some (.val (.slice p n c),s)
  | some (.map r)=>some (.val (.map r),s)
  | _=>none
def jN (op:BinOp) (t:TypeId) (x y:Operand) (C:Ctx) (a:T Value) (s:AS):Option (R × AS) :=
 match aQ a x,aQ a y with
  | some u,some v=>match EM C op t x y u v with
   | some r=>some (.val r,s)
   | none=>none
  | _,_=>none
def mZ (op:UnOp) (x:Operand) (C:Ctx) (a:T Value) (s:AS):Option (R × AS) :=
 match aQ a x with
  | some v=>cond (am v) (match eG C.P (Op.unary op v) with
   | some r=>cond (am r) (some (.val r,s)) none
   | none=>none) none
  | none=>none
def lW (src dst:TypeId) (x:Operand) (C:Ctx) (a:T Value) (s:AS):Option (R × AS) :=
 match aQ a x with
  | some v=>match zj C src dst v s with
   | some (r,s')=>some (.val r,s')
   | none=>none
  | none=>none
def cM (src dst:TypeId) (x:Operand) (C:Ctx) (a:T Value) (s:AS):Option (R × AS) :=
 match fW src dst x C a with
 | some al=>mX s (some al)
 | none=>lW src dst x C a s
def bz (t:TypeId) (x:Operand) (C:Ctx) (a:T Value) (s:AS):Option (R × AS) :=
 match aQ a x,C.un t with
  | some _,some (.interface _)=>none
  | some v,some _=>some (.val (.iface t v),s)
  | _,_=>none
def dE (f:FuncId) (fs cs:Array Operand) (C:Ctx) (a:T Value) (s:AS):Option (R × AS) :=
 match fe a fs.toList,fe a cs.toList with
  | some fs',some cs'=>some (.val (.func (.func f) fs'.toArray cs'.toArray),s)
  | _,_=>none
def jO (t:TypeId) (x:Operand) (lo hi mx:Option Operand) (C:Ctx) (a:T Value) (s:AS):Option (R × AS) :=
 match aQ a x,B6 a lo,B6 a hi,B6 a mx with
  | some v,some l,some h,some m=>match C.un t,v with
   | some (.slice e),.slice p n c=>match cut n c l h m,cA C e with
    | some (i,j,k),some sz=>match p with
     | none=>some (.val (.slice none 0 0),s)
     | some ad=>match fQ s ad.block with
      | some q=>cond q.opn (cond (Nat.beq q.esz sz) (some (.val (.slice (some ⟨ad.block,ad.off+i*sz,ad.spot⟩) (j-i) (k-i)),s)) none) (some (.val (.slice (some ⟨ad.block,ad.off+i*sz,ad.spot⟩) (j-i) (k-i)),s))
      | none=>none
    | _,_=>none
   | some .string,.string b=>match m,cut b.size b.size l h none with
    | none,some (i,j,_)=>some (.val (.string (b.extract i j)),s)
    | _,_=>none
   | some (.array n e),.pointer (some ad)=>match cut n n l h m,cA C e with
    | some (i,j,k),some sz=>some (.val (.slice (some ⟨ad.block,ad.off+i*sz,ad.spot⟩) (j-i) (k-i)),s)
    | _,_=>none
   | _,_=>none
  | _,_,_,_=>none
def dL (t:TypeId) (x:Operand) (f:Nat) (C:Ctx) (a:T Value) (s:AS):Option (R × AS) :=
 match C.un t,aQ a x with
  | some (.struct fs),some (.pointer (some p))=>match fieldAt fs.toList f with
   | some fl=>match cA C fl.type with
    | some 0=>none
    | some _=>some (.val (.pointer (some ⟨p.block,p.off+fl.offset,p.spot⟩)),s)
    | none=>none
   | none=>none
  | _,_=>none
def jP (t:TypeId) (x:Operand) (f:Nat) (C:Ctx) (a:T Value) (s:AS):Option (R × AS) :=
 match C.un t,aQ a x with
  | some (.struct fs),some (.agg cs)=>match fieldAt fs.toList f with
   | some fl=>match fT C fl.type,cA C fl.type with
    | some true,some n=>some (.val (.agg ((cs.toList.drop fl.offset).take n).toArray),s)
    | some false,_=>match cs.toList[fl.offset]? with
     | some v=>some (.val v,s)
     | none=>none
    | _,_=>none
   | none=>none
  | _,_=>none
def dM (t:TypeId) (x i:Operand) (C:Ctx) (a:T Value) (s:AS):Option (R × AS) :=
 match C.un t,aQ a x,aQ a i with
  | some (.slice e),some (.slice (some p) n _),some (.int _ k)=>match cA C e with
   | some sz=>if 0<=k/\k<n then some (.val (.pointer (some ⟨p.block,p.off+k.toNat*sz,p.spot⟩)),s) else none
   | none=>none
  | some (.array n e),some (.pointer (some p)),some (.int _ k)=>match cA C e with
   | some sz=>if 0<=k/\k<n then some (.val (.pointer (some ⟨p.block,p.off+k.toNat*sz,p.spot⟩)),s) else none
   | none=>none
  | _,_,_=>none
def jQ (t:TypeId) (x i:Operand) (C:Ctx) (a:T Value) (s:AS):Option (R × AS) :=
 match C.un t,aQ a x,aQ a i with
  | some .string,some (.string b),some (.int _ k)=>if 0<=k then match b[k.toNat]? with
   | some c=>some (.val (.int .u8 c.toNat),s)
   | none=>none
   else none
  | some (.array n e),some (.agg cs),some (.int _ k)=>if 0<=k/\k<n then match fT C e,cA C e with
   | some true,some sz=>some (.val (.agg ((cs.toList.drop (k.toNat*sz)).take sz).toArray),s)
   | some false,some sz=>match cs.toList[k.toNat*sz]? with
    | some v=>some (.val v,s)
    | none=>none
   | _,_=>none
   else none
  | _,_,_=>none
def gV (t:TypeId) (x k:Operand) (ok:Bool) (C:Ctx) (a:T Value) (s:AS):Option (R × AS) :=
 match C.un t,aQ a x,aQ a k with
  | some (.map kt et),some (.map r),some kv=>match C.un kt,C.ty et with
   | some d,some ei=>match (match r with | none=>some [] | some b=>(match s.h.get b with | some (.map es _)=>some es | _=>none)),ei.zero with
    | some es,some z=>cond (plainKey d kv && bi z) (match C0 d kv es with
     | some (some (_,v))=>some (.val (cond ok (.tuple #[v,.bool true]) v),s)
     | some none=>some (.val (cond ok (.tuple #[z,.bool false]) z),s)
     | none=>none) none
    | _,_=>none
   | _,_=>none
  | _,_,_=>none
def cC (t:TypeId) (x k v:Operand) (C:Ctx) (a:T Value) (s:AS):Option (R × AS) :=
 match C.un t,aQ a x,aQ a k,aQ a v with
  | some (.map kt _),some (.map (some r)),some kv,some vv=>match C.un kt,s.h.get r with
   | some d,some (.map es clock)=>cond (plainKey d kv) (match C0 d kv es with
    | some (some (i,_))=>some (.skip,⟨s.n,s.h.put r (.map (es.modify i fun e=>{e with key:=kv,val:=vv}) clock)⟩)
    | some none=>some (.skip,⟨s.n,s.h.put r (.map (es++[{key:=kv,val:=vv,born:=clock}]) (clock+1))⟩)
    | none=>none) none
   | _,_=>none
  | _,_,_,_=>none
def sh (C:Ctx) (t:TypeId) (ok:Bool) (s:AS):Option (R × AS) :=
 match C.ty t with
 | some ti=>match ti.zero with
  | some z=>cond (ok && bi z) (some (.val (.tuple #[z,.bool false]),s)) none
  | none=>none
 | none=>none
def EN (got:List Method) (p:String × TypeId):Bool:=got.any fun m=>m.name==p.1 && m.sig==p.2
def C8 (want:Array (String × TypeId)) (got:Array Method):Bool:=!want.toList.all (EN got.toList)
def b6 (x:Operand) (t:TypeId) (ok:Bool) (C:Ctx) (a:T Value) (s:AS):Option (R × AS) :=
 match aQ a x,C.un t with
  | some .nilIface,some (.interface _)=>none
  | some (.iface u v),some (.interface want)=>match C.ty u with
   | some ui=>match C8 want ui.methods with
    | false=>some (.val (cond ok (.tuple #[.iface u v,.bool true]) (.iface u v)),s)
    | true=>sh C t ok s
   | none=>none
  | some (.iface u v),some _=>cond (Nat.beq u t) (some (.val (cond ok (.tuple #[v,.bool true]) v),s)) (sh C t ok s)
  | _,_=>none
def fC (x:Operand) (i:Nat) (C:Ctx) (a:T Value) (s:AS):Option (R × AS) :=
 match aQ a x with
  | some (.tuple vs)=>match vs.toList[i]? with
   | some v=>some (.val v,s)
   | none=>none
  | _=>none
def xW:TypeDesc->Bool
 | .pointer _=>true
 | _=>false
def zp (C:Ctx) (t:TypeId) (name:String) (v:Value) (vs:List Value) (s:AS):Option (R × AS) :=
 match C.ty t with
 | some ti=>match ti.methods.toList.find? (fun m=>m.name==name) with
  | some m=>match m.path.toList,m.func,C.un t with
   | [],some (g,true),some (.pointer _)=>some (.call g (v::vs),s)
   | [],some (g,false),some d=>cond (xW d) none (some (.call g (v::vs),s))
   | _,_,_=>none
  | none=>none
 | none=>none
def zq (C:Ctx) (t:TypeId) (name:String) (v:Value) (vs:List Value) (s:AS):Option (R × AS) :=
 match C.meth t name v with
 | some (g,rv)=>some (.call g (rv::vs),s)
 | none=>zp C t name v vs s
def kU (c:Call) (C:Ctx) (a:T Value) (s:AS):Option (R × AS) :=
 match c.callee,fe a c.args.toList with
  | .builtin b,some vs=>lR C b c.argTypes.toList vs s
  | .value f,some vs=>match aQ a f with
   | some (.func (.func g) fs cs)=>some (.call g (fs.toList++vs++cs.toList),s)
   | some (.func (.yield l) _ _)=>some (.round l vs,s)
   | _=>none
  | .invoke r name,some vs=>match aQ a r with
   | some (.iface t v)=>zq C t name v vs s
   | _=>none
  | _,none=>none
def lX (t:TypeId) (x:Operand) (C:Ctx) (a:T Value) (s:AS):Option (R × AS) :=
 match C.un t,aQ a x with
 | some (.map _ _),some (.map none)=>mX s (some (.mit none 0 [] 0,xV))
 | some (.map _ _),some (.map (some r))=>match s.h.get r with
  | some (.map _ clock)=>mX s (some (.mit (some r) clock [] clock,xV))
  | _=>none
 | some .string,some (.string b)=>mX s (some (.sit b 0,xV))
 | _,_=>none
def zr (s:AS) (b:Nat) (q:ByteArray) (pos:Nat):Option (R × AS) :=
 cond (Nat.blt pos q.size) (some (.val (.tuple #[.bool true,.int .i64 pos,.int .i32 (Utf8.decode q pos).1]),⟨s.n,s.h.put b (.sit q (pos+(Utf8.decode q pos).2))⟩)) (some (.val (.tuple #[.bool false]),s))
def pU (es:List MapEntry) (since:Nat) (seen:List Nat):List (Option MapEntry) :=
 let left:=es.filter fun e=>!seen.contains e.born
 let old:=left.filter (·.born<since)
 (cond old.isEmpty [none] [])++(old++left.filter (·.born ≥ since)).map some
def zt (s:AS) (b r:Nat) (since:Nat) (seen:List Nat) (last:Nat) (es:List MapEntry) (clock:Nat):Option (R × AS) :=
 cond (!seen.isEmpty && !es.isEmpty && es.all (fun e=>decide (e.born ≥ last))) none
  (match pU es since seen with
  | [none]=>some (.val (.tuple #[.bool false]),s)
  | [some e]=>some (.val (.tuple #[.bool true,e.key,e.val]),⟨s.n,s.h.put b (.mit (some r) since (seen++[e.born]) clock)⟩)
  | _=>none)
def pV (x:Operand) (isStr:Bool) (_:Ctx) (a:T Value) (s:AS):Option (R × AS) :=
 match aQ a x with
 | some (.pointer (some ⟨b,0,none⟩))=>match s.h.get b,isStr with
  | some (.sit q pos),true=>zr s b q pos
  | some (.mit none _ _ _),false=>some (.val (.tuple #[.bool false]),s)
  | some (.mit (some r) since seen last),false=>match s.h.get r with
   | some (.map es clock)=>zt s b r since seen last es clock
   | _=>none
  | _,_=>none
 | _=>none
def l4 (x:Operand) (_:Ctx) (a:T Value) (s:AS):Option (R × AS) :=
 match aQ a x with
 | some (.pointer (some ⟨b,0,none⟩))=>match s.h.get b with
  | some (.mit (some r) _ seen last)=>match seen.getLast?,s.h.get r with
   | some st,some (.map es clock)=>cond (Nat.beq clock last) (match es.find? (fun e=>e.born==st) with
    | some e=>some (.val (.tuple #[e.key,e.val]),s)
    | none=>none) none
   | _,_=>none
  | _=>none
 | _=>none
def jh (_:Ctx) (_:T Value) (_:AS):Option (R × AS):=none
def rf (k:Ctx->T Value->Option Al) (C:Ctx) (a:T Value) (s:AS):Option (R × AS):=mX s (k C a)
def xX (op:Op):Ctx->T Value->AS->Option (R × AS) :=
 match op with
 | .move x | .assign x=>iB x
 | .pick c x y=>mW c x y
 | .alloc t=>rf (lU t)
 | .box t x=>rf (sg t x)
 | .build t ps=>jM t ps
 | .buildSlice t n ps=>rf (cL t n ps)
 | .load t x=>mY t x
 | .store t x y=>lV t x y
 | .nilCheck x=>ef x
 | .binOp op t x y _=>jN op t x y
 | .unOp op _ x=>mZ op x
 | .convert src dst x=>cM src dst x
 | .makeInterface t x=>bz t x
 | .makeFunc (.func f) fs cs=>dE f fs cs
 | .makeMap _ none=>rf gU
 | .makeSlice t l c=>rf (dK t l c)
 | .slice t x lo hi mx=>jO t x lo hi mx
 | .fieldAddr t x f=>dL t x f
 | .field t x f=>jP t x f
 | .indexAddr t x i=>dM t x i
 | .index t x i=>jQ t x i
 | .lookup t x k ok=>gV t x k ok
 | .mapUpdate t x k v | .insert t x k v=>cC t x k v
 | .range t x=>lX t x
 | .next x q=>pV x q
 | .entry x=>l4 x
 | .typeAssert x xt t ok=>b6 x t ok
 | .extract x i=>fC x i
 | .call c=>kU c
 | _=>jh
def wT (C:Ctx) (o:Oper) (a:T Value) (s:AS):Option (R × AS):=xX o.op C a s
inductive Xt where
 | normal
 | exit (id:Nat)
 | ret
def gq (ops:List Oper) (a:T Value) (g:Nat × Bool):Bool :=
 match ops[g.1]? with
 | some oj=>match oj.dst with
  | some d=>match a.get d with
   | some (.bool b)=>cond g.2 b (!b)
   | _=>false
  | none=>false
 | none=>false
def aX (ops:List Oper) (o:Oper) (a:T Value):Bool :=
 Option.rec (motive:=fun _=>Bool) true (fun g=>gq ops a g) o.guard
def xY (ops:List Oper) (a:T Value) (g:Nat × Bool):Bool :=
 match ops[g.1]? with
 | some oj=>match oj.dst with
  | some d=>match a.get d with
   | some (.chan _)=>false
   | _=>true
  | none=>true
 | none=>true
def em (ops:List Oper) (o:Oper) (a:T Value):Bool :=
 Option.rec (motive:=fun _=>Bool) true (fun g=>xY ops a g) o.guard
def rh (n:Nat) (a:T Value) (d:Option Tmp) (v:Value):Option (T Value) :=
 Option.rec (motive:=fun _=>Option (T Value)) (some a) (fun t=>Bool.rec (motive:=fun _=>Option (T Value)) none (some (a.put t v)) (Nat.blt t n)) d
def kz (C:Ctx) (s:AS) (a:T Value):List ResultVar->Option (List Value)
 | []=>some []
 | .tmp t::r=>match kz C s a r with
  | some l=>some ((a.get t).getD undef::l)
  | none=>none
 | .cell p t::r=>match a.get p with
  | some (.pointer (some ad))=>match fT C t,cA C t,kz C s a r with
   | some true,some n,some l=>match cq s ad n with
    | some cs=>some (.agg cs.toArray::l)
    | none=>none
   | some false,_,some l=>match cq s ad 1 with
    | some [v]=>some (v::l)
    | _=>none
   | _,_,_=>none
  | _=>none
structure bL where
 c:Bool->Nat->Code->T Value->AS->Option (Xt × T Value × AS)
 o:Nat->List Oper->List Oper->T Value->AS->Option (T Value × AS)
 d:Nat->List Oper->Nat->Nat->T Value->AS->Option (T Value × AS)
 f:FuncId->List Value->AS->Option (Value × AS)
abbrev eQ:=Option (Xt × T Value × AS)
def zu (_:Ctx) (_:bL) (_:Bool) (_:Nat) (a:T Value) (s:AS):eQ:=some (.normal,a,s)
def HO (_:Ctx) (_:bL) (_:Bool) (_:Nat) (a:T Value) (s:AS):eQ:=some (.ret,a,s)
def FK (id:Nat) (_:Ctx) (_:bL) (_:Bool) (_:Nat) (a:T Value) (s:AS):eQ:=some (.exit id,a,s)
def Gt (x y:Code) (_:Ctx) (ih:bL) (q:Bool) (n:Nat) (a:T Value) (s:AS):eQ :=
 match ih.c q n x a s with
 | some (.normal,a',s')=>ih.c q n y a' s'
 | r=>r
def zw (x:Operand) (t e:Code) (_:Ctx) (ih:bL) (q:Bool) (n:Nat) (a:T Value) (s:AS):eQ :=
 match aQ a x with
 | some (.bool b)=>ih.c q n (cond b t e) a s
 | _=>none
def tO (id:Nat) (b:Code) (_:Ctx) (ih:bL) (q:Bool) (n:Nat) (a:T Value) (s:AS):eQ :=
 match ih.c q n b a s with
 | some (.exit id',a',s')=>cond (Nat.beq id id') (some (.normal,a',s')) (some (.exit id',a',s'))
 | r=>r
def vI (b:Code) (_:Ctx) (ih:bL) (q:Bool) (n:Nat) (a:T Value) (s:AS):eQ :=
 match ih.c q n b a s with
 | some (.normal,a',s')=>ih.c q n (.loop b) a' s'
 | r=>r
def oD (ops:Array Oper) (_:Ctx) (ih:bL) (_:Bool) (n:Nat) (a:T Value) (s:AS):eQ :=
 match ih.o n ops.toList ops.toList a s with
 | some (a',s')=>some (.normal,a',s')
 | none=>none
def tP (g:Operand) (ps:Array Tmp) (asg bd:Code) (C:Ctx) (ih:bL) (q:Bool) (n:Nat) (a:T Value) (s:AS):eQ :=
 cond q none
 (match aQ a g with
 | some (.func (.func h) fs cs)=>cond (Nat.beq fs.size 0 && (C.sp h).isNone)
  (match ih.f h (.func (.yield s.n) #[] #[]::cs.toList) ⟨s.n+1,s.h.put s.n (.loop a n ps.toList asg bd .ready)⟩ with
  | some (_,s')=>match s'.h.get s.n with
   | some (.loop _ _ _ _ _ .ready)=>some (.normal,a,⟨s'.n,s'.h.put s.n .dead⟩)
   | some (.loop _ _ _ _ _ (.done c))=>ih.c q n c a ⟨s'.n,s'.h.put s.n .dead⟩
   | _=>none
  | none=>none) none
 | _=>none)
def zx (_:Ctx) (_:bL) (_:Bool) (_:Nat) (_:T Value) (_:AS):eQ:=none
def aB (D i:Nat):Bool:=Nat.beq (Nat.land (Nat.shiftRight D i) 1) 1
def gW (D i:Nat):Nat:=Nat.lor D (Nat.shiftLeft 1 i)
def cr (D:Nat):List Edge->Bool
 | []=>true
 | e::es=>cond (Region.binds .any e) (cond (aB D e.on) (cr D es) false) (cr D es)
def zy:Builtin->Bool
 | .len | .cap | .min | .max=>true
 | _=>false
def C9 (c:Callee):Bool:=match c with
 | .builtin b=>zy b
 | _=>false
def pW (_:Ctx) (op:Op):Bool :=
 match op with
 | .move _ | .assign _ | .pick _ _ _ | .build _ _ | .load _ _ | .nilCheck _ | .binOp _ _ _ _ _ | .unOp _ _ _ | .makeInterface _ _ | .makeFunc _ _ _ | .slice _ _ _ _ _
 | .fieldAddr _ _ _ | .field _ _ _ | .indexAddr _ _ _ | .index _ _ _ | .lookup _ _ _ _ | .typeAssert _ _ _ _ | .extract _ _=>true
 | .convert _ _ _=>true
 | .call c=>C9 c.callee
 | _=>false
def EO (f:Value->Value->Bool):List Value->List Value->Bool
 | [],[]=>true
 | x::xs,y::ys=>cond (f x y) (EO f xs ys) false
 | _,_=>false
def IG (a b:Addr):Bool:=match a.spot,b.spot with
 | none,none=>Nat.beq a.block b.block && Nat.beq a.off b.off
 | _,_=>false
def Gu:Int->Int->Bool
 | .ofNat a,.ofNat b=>Nat.beq a b
 | .negSucc a,.negSucc b=>Nat.beq a b
 | _,_=>false
def EP:List UInt8->List UInt8->Bool
 | [],[]=>true
 | x::xs,y::ys=>cond (Nat.beq x.toNat y.toNat) (EP xs ys) false
 | _,_=>false
def A0:Nat->Value->Value->Bool
 | 0,_,_=>false
 | k+1,x,y=>match x,y with
  | .bool p,.bool q=>cond p q (!q)
  | .int j p,.int k q=>xP j k && Gu p q
  | .string p,.string q=>EP p.data.toList q.data.toList
  | .nilFunc,.nilFunc=>true
  | .chan none,.chan none=>true
  | .chan (some p),.chan (some q)=>Nat.beq p q
  | .nilIface,.nilIface=>true
  | .pointer none,.pointer none=>true
  | .pointer (some p),.pointer (some q)=>IG p q
  | .slice none n c,.slice none n' c'=>Nat.beq n n' && Nat.beq c c'
  | .slice (some p) n c,.slice (some q) n' c'=>IG p q && (Nat.beq n n' && Nat.beq c c')
  | .map none,.map none=>true
  | .map (some p),.map (some q)=>Nat.beq p q
  | .iface t v,.iface u z=>Nat.beq t u && A0 k v z
  | .agg p,.agg q=>EO (A0 k) p.toList q.toList
  | .tuple p,.tuple q=>EO (A0 k) p.toList q.toList
  | .func (.func f) p r,.func (.func g) q z=>Nat.beq f g && (EO (A0 k) p.toList q.toList && EO (A0 k) r.toList z.toList)
  | _,_=>false
def zz (a:T Value) (d:Option Tmp) (v:Value):Bool :=
 match d with
 | none=>true
 | some t=>match a.get t with
  | some u=>A0 10 u v
  | none=>false
def ji (t:Tmp):List Operand->Bool
 | []=>false
 | .tmp u::r=>cond (Nat.beq u t) true (ji t r)
 | _::r=>ji t r
def cN (j:Nat):List Edge->Bool
 | []=>false
 | e::es=>cond (Region.binds .any e) (cond (Nat.beq e.on j) true (cN j es)) (cN j es)
def vJ (t:Tmp) (i:Nat):List Oper->Bool
 | []=>false
 | k::ks=>cond (ji t k.op.operands.toList) (cond (cN i k.after.toList) (vJ t i ks) true) (vJ t i ks)
def pX (all:List Oper) (i:Nat) (o:Oper):Bool :=
 match o.dst with
 | some t=>vJ t i all
 | none=>false
inductive Gv where
 | leave
 | fail
 | took (a:T Value) (s:AS)
def zA (n:Nat) (a:T Value) (d:Option Tmp) (v:Value) (s:AS):Gv :=
 match rh n a d v with
 | some a'=>.took a' s
 | none=>.fail
def oE (n:Nat) (a:T Value) (d:Option Tmp) (r:Option (R × AS)):Gv :=
 match r with
 | some (.val v,s')=>zA n a d v s'
 | _=>.fail
def pY (C:Ctx) (n:Nat) (all:List Oper) (i:Nat) (o:Oper) (a:T Value) (s:AS):Gv :=
 cond (pX all i o) .leave (cond (aX all o a)
  (match ki o.op C a with
  | some al=>cond o.dst.isSome (oE n a o.dst (mX s (some al))) .fail
  | none=>cond (pW C o.op) (oE n a o.dst (wT C o a s)) .leave)
  (zA n a o.dst undef s))
def pass (C:Ctx) (n:Nat) (all:List Oper):List Oper->Nat->Nat->T Value->AS->Option (Nat × T Value × AS)
 | [],_,D,a,s=>some (D,a,s)
 | o::os,i,D,a,s=>cond (aB D i) (pass C n all os (i+1) D a s)
  (cond (cr D o.after.toList) (match pY C n all i o a s with
   | .leave=>pass C n all os (i+1) D a s
   | .fail=>none
   | .took a' s'=>pass C n all os (i+1) (gW D i) a' s') (pass C n all os (i+1) D a s))
def gF (D:Nat):List Oper->Nat->List Nat
 | [],_=>[]
 | o::os,i=>cond (aB D i) (gF D os (i+1)) (cond (cr D o.after.toList) (i::gF D os (i+1)) (gF D os (i+1)))
def Da (C:Ctx) (all:List Oper) (a:T Value) (s:AS) (o:Oper):Bool :=
 cond (em all o a) (cond (aX all o a)
  (match ki o.op C a with
  | some _=>true
  | none=>match wT C o a s with
   | some (.val v,_)=>cond (pW C o.op) (zz a o.dst v) false
   | _=>false)
  (zz a o.dst undef)) false
def tQ (C:Ctx) (all:List Oper) (D A:Nat) (a:T Value) (s:AS):List Oper->Nat->Bool
 | [],_=>true
 | o::os,i=>cond (aB D i) (cond (aB A i) (tQ C all D A a s os (i+1)) (cond (Da C all a s o) (tQ C all D A a s os (i+1)) false)) (tQ C all D A a s os (i+1))
def nB (A:Nat):List Edge->Nat
 | []=>A
 | e::es=>cond (Region.binds .any e) (gW (nB A es) e.on) (nB A es)
def EQ (all:List Oper):List Oper->Nat->Nat->Nat
 | [],_,A=>A
 | o::os,i,A =>
  let B:=EQ all os (i+1) A
  cond (aB B i) (nB B o.after.toList) B
def Db (D:Nat):List Oper->Nat->Bool
 | [],_=>true
 | _::os,i=>cond (aB D i) (Db D os (i+1)) false
def pZ:List Oper->Nat
 | []=>0
 | o::os=>match o.dst with
  | some t=>gW (pZ os) t
  | none=>pZ os
def iC:List Oper->Bool
 | []=>true
 | o::os=>match o.dst with
  | some t=>cond (aB (pZ os) t) false (iC os)
  | none=>iC os
def ahead (i:Nat):List Edge->Bool
 | []=>true
 | e::es=>cond (Region.binds .any e) (cond (Nat.blt e.on i) (ahead i es) false) (ahead i es)
def kC (all:List Oper):List Edge->Nat
 | []=>0
 | e::es=>cond (Region.binds .any e) (match all[e.on]? with
  | some o=>(match o.dst with | some t=>gW (kC all es) t | none=>kC all es)
  | none=>kC all es) (kC all es)
def nC (i:Nat):List Oper->Nat
 | []=>0
 | k::ks=>cond (cN i k.after.toList) (match k.dst with
  | some t=>gW (nC i ks) t
  | none=>nC i ks) (nC i ks)
def tmpsIn (M Q:Nat):List Operand->Bool
 | []=>true
 | .tmp t::r=>cond (aB M t) (cond (aB Q t) (tmpsIn M Q r) false) (tmpsIn M Q r)
 | _::r=>tmpsIn M Q r
def zC (all:List Oper) (Q:Nat) (g:Option (Nat × Bool)):Bool :=
 match g with
 | none=>true
 | some (j,_)=>match all[j]? with
  | some o=>(match o.dst with | some t=>aB Q t | none=>false)
  | none=>false
def H0:Op->Bool
 | .select _ _=>false
 | _=>true
def vK (all:List Oper) (M i:Nat) (o:Oper):Bool :=
 ahead i o.after.toList && (tmpsIn M (Nat.lor (kC all o.after.toList) (nC i all)) o.op.operands.toList && (zC all (kC all o.after.toList) o.guard && H0 o.op))
def zD (all:List Oper) (M:Nat):List Oper->Nat->Bool
 | [],_=>true
 | o::os,i=>cond (vK all M i o) (zD all M os (i+1)) false
def okD (all:List Oper):Bool:=iC all && zD all (pZ all) all 0
def tR (ops:Array Oper) (_:Ctx) (ih:bL) (_:Bool) (n:Nat) (a:T Value) (s:AS):eQ :=
 cond (okD ops.toList) (match ih.d n ops.toList 0 0 a s with
 | some (a',s')=>some (.normal,a',s')
 | none=>none) none
def IX (c:Code):Ctx->bL->Bool->Nat->T Value->AS->eQ :=
 match c with
 | .skip=>zu
 | .label _=>zu
 | .ret=>HO
 | .exit id=>FK id
 | .seq x y=>Gt x y
 | .cond x t e=>zw x t e
 | .block id b=>tO id b
 | .loop b=>vI b
 | .region _ ops false=>oD ops
 | .region _ ops true=>tR ops
 | .rangeFunc g ps asg bd=>tP g ps asg bd
 | _=>zx
def IH (C:Ctx) (ih:bL) (q:Bool) (n:Nat) (c:Code) (a:T Value) (s:AS):eQ:=IX c C ih q n a s
def FL (s:AS) (l:Nat) (x:Xt):Option (Value × AS) :=
 match s.h.get l with
 | some (.loop t nt ps asg bd .busy)=>match x with
  | .normal=>some (.bool true,⟨s.n,s.h.put l (.loop t nt ps asg bd .ready)⟩)
  | .ret=>some (.bool false,⟨s.n,s.h.put l (.loop t nt ps asg bd (.done .ret))⟩)
  | .exit id=>some (.bool false,⟨s.n,s.h.put l (.loop t nt ps asg bd (.done (.exit id)))⟩)
 | _=>none
def Dc (ih:bL) (l nt:Nat) (bd:Code) (a:T Value) (s:AS):Option (Value × AS) :=
 match s.h.get l with
 | some (.loop t nt' ps asg bd' .ready)=>match ih.c true nt bd a ⟨s.n,s.h.put l (.loop t nt' ps asg bd' .busy)⟩ with
  | some (x,_,s')=>FL s' l x
  | none=>none
 | _=>none
def tS (n:Nat):List Tmp->List Value->T Value->Option (T Value)
 | [],[],t=>some t
 | p::ps,v::vs,t=>cond (Nat.blt p n) (tS n ps vs (t.put p v)) none
 | _,_,_=>none
def p5 (ih:bL) (l:Nat) (vs:List Value) (s:AS):Option (Value × AS) :=
 match s.h.get l with
 | some (.loop t nt ps asg bd .ready)=>match tS nt ps vs t with
  | some a=>match ih.c true nt asg a s with
   | some (.normal,a',s')=>Dc ih l nt bd a' s'
   | _=>none
  | none=>none
 | _=>none
def m5 (ih:bL) (r:Option (R × AS)):Option (Value × AS) :=
 match r with
 | some (.val v,s')=>some (v,s')
 | some (.skip,s')=>some (undef,s')
 | some (.call g vs,s')=>ih.f g vs s'
 | some (.round l vs,s')=>p5 ih l vs s'
 | none=>none
def Ba (ih:bL) (n:Nat) (all os:List Oper) (d:Option Tmp) (v:Value) (a:T Value) (s:AS):Option (T Value × AS) :=
 Option.rec (motive:=fun _=>Option (T Value × AS)) none (fun a'=>ih.o n all os a' s) (rh n a d v)
def xZ (ih:bL) (n:Nat) (all os:List Oper) (d:Option Tmp) (a:T Value) (r:Option (Value × AS)):Option (T Value × AS) :=
 match r with
 | some (v,s')=>Ba ih n all os d v a s'
 | none=>none
def vL (C:Ctx) (ih:bL) (n:Nat) (all:List Oper) (o:Oper) (os:List Oper) (a:T Value) (s:AS):Option (T Value × AS) :=
 cond (em all o a) (Bool.rec (motive:=fun _=>Option (T Value × AS)) (Ba ih n all os o.dst undef a s) (xZ ih n all os o.dst a (m5 ih (wT C o a s))) (aX all o a)) none
def II (C:Ctx) (ih:bL) (n:Nat) (all os:List Oper) (a:T Value) (s:AS):Option (T Value × AS) :=
 List.rec (motive:=fun _=>Option (T Value × AS)) (some (a,s)) (fun o os _=>vL C ih n all o os a s) os
def H4 (C:Ctx) (ih:bL) (n:Nat) (all:List Oper) (D A i:Nat) (o:Oper) (a:T Value) (s:AS):Option (T Value × AS) :=
 cond (em all o a && aX all o a) (match m5 ih (wT C o a s) with
 | some (v,s')=>match rh n a o.dst v with
  | some a'=>ih.d n all (gW D i) (EQ all all 0 (gW A i)) a' s'
  | none=>none
 | none=>none) none
def Dd (C:Ctx) (ih:bL) (n:Nat) (all:List Oper) (D A:Nat) (a:T Value) (s:AS):Option (T Value × AS) :=
 cond (tQ C all D A a s all 0)
  (match gF D all 0 with
  | []=>cond (Db D all 0) (some (a,s)) none
  | [i]=>match all[i]? with
   | some o=>H4 C ih n all D A i o a s
   | none=>none
  | _=>none) none
def Hb (C:Ctx) (ih:bL) (n:Nat) (all:List Oper) (D A:Nat) (a:T Value) (s:AS):Option (T Value × AS) :=
 match pass C n all all 0 D a s with
 | some (D',a',s')=>Dd C ih n all D' A a' s'
 | none=>none
def Gw (C:Ctx) (ih:bL) (g:FuncId) (vs:List Value) (s:AS):Option (Value × AS) :=
 match C.sp g with
 | some k=>k vs s
 | none=>match C.fn g with
  | some fn=>match fn.body with
   | some b=>cond (Nat.ble vs.length fn.ntmps) (match ih.c false fn.ntmps b (T.bH vs 0 .leaf) s with
    | some (.exit _,_,_)=>none
    | some (_,a',s')=>match kz C s' a' fn.results.toList with
     | some [v]=>some (v,s')
     | some l=>some (.tuple l.toArray,s')
     | none=>none
    | none=>none) none
   | none=>none
  | none=>none
def ev (C:Ctx) (fuel:Nat):bL :=
 Nat.rec (motive:=fun _=>bL) ⟨fun _ _ _ _ _=>none,fun _ _ _ _ _=>none,fun _ _ _ _ _ _=>none,fun _ _ _=>none⟩ (fun _ ih=>⟨IH C ih,II C ih,Hb C ih,Gw C ih⟩) fuel
end
end Go.Proofs.YtgohffhoapkeaaaGreatDoor.Ev
namespace Go.Proofs.YtgohffhoapkeaaaGreatDoor.Ev
open Go.RowKit
variable {ω:Nat->Value}
theorem aK {m:M ω} {v v':Value} (h:VRel m v v') (hp:am v=true):v'=v:=by
 cases h <;> first | rfl | (simp [am] at hp)
theorem fX (v:Value):v.cells.toList=cellsOf v:=by cases v <;> rfl
theorem fY (cs:Array Value) (i:Nat) (h:i<cs.size):cs.toList[i]?=some (cs.getD i undef):=by
 simp [h]
def LRel (m:M ω) (l l':List Value):Prop:=l.length=l'.length/\∀ (i:Nat) (v v':Value),l[i]?=some v->l'[i]?=some v'->VRel m v v'
theorem LRel.nil (m:M ω):LRel m [] []:=⟨rfl,fun i v v' h=>by simp at h⟩
theorem LRel.mono {m m':M ω} (hl:Le m m') {l l':List Value} (h:LRel m l l'):LRel m' l l':=⟨h.1,fun i v v' a b=>(h.2 i v v' a b).mono hl⟩
theorem LRel.cons {m:M ω} {v v':Value} {l l':List Value} (h:VRel m v v') (k:LRel m l l'):LRel m (v::l) (v'::l') :=
 ⟨by simp [k.1],fun i=>by
  cases i with
  | zero=>intro a b ha hb;simp at ha hb;subst ha;subst hb;exact h
  | succ i=>intro a b ha hb;simp at ha hb;exact k.2 i a b ha hb⟩
theorem LRel.tail {m:M ω} {v v':Value} {l l':List Value} (h:LRel m (v::l) (v'::l')):VRel m v v'/\LRel m l l' :=
 ⟨h.2 0 v v' rfl rfl,by simpa using h.1,fun i a b ha hb=>h.2 (i+1) a b (by simpa using ha) (by simpa using hb)⟩
theorem LRel.append {m:M ω} {l l' k k':List Value} (h:LRel m l l') (j:LRel m k k'):LRel m (l++k) (l'++k') :=
 ⟨by simp [h.1,j.1],fun i a b ha hb=>by
  by_cases hi:i<l.length
  ·rw [List.getElem?_append_left hi] at ha;rw [List.getElem?_append_left (by rw [<-h.1];exact hi)] at hb;exact h.2 i a b ha hb
  ·rw [List.getElem?_append_right (by omega)] at ha;rw [List.getElem?_append_right (by rw [<-h.1];omega),<-h.1] at hb
   exact j.2 _ a b ha hb⟩
theorem LRel.plain {m:M ω} {l:List Value} (h:l.all am=true):LRel m l l:=⟨rfl,fun i v v' a b=>by
 rw [a] at b;cases b
 exact .plain v (List.all_eq_true.1 h v (mG a))⟩
theorem LRel.of_arr {m:M ω} {cs cs':Array Value} (hs:cs.size=cs'.size) (h:∀ i,i<cs.size->VRel m (cs.getD i undef) (cs'.getD i undef)):LRel m cs.toList cs'.toList :=
 ⟨by simpa using hs,fun i v v' a b=>by
  have hi:i<cs.size:=by have:=(lS.1 a).1;simpa using this
  rw [fY cs i hi] at a;rw [fY cs' i (by omega)] at b
  cases a;cases b
  exact h i hi⟩
theorem LRel.arr {m:M ω} {l l':List Value} (h:LRel m l l'):∀ i,i<l.toArray.size->VRel m (l.toArray.getD i undef) (l'.toArray.getD i undef):=fun i hi=>by
 have hi':i<l.length:=by simpa using hi
 refine h.2 i _ _ ?_ ?_
 ·simp [hi']
 ·simp [show i<l'.length by rw [<-h.1];exact hi']
theorem LRel.agg {m:M ω} {l l':List Value} (h:LRel m l l'):VRel m (.agg l.toArray) (.agg l'.toArray):=.agg _ _ (by simpa using h.1) h.arr
theorem LRel.tuple {m:M ω} {l l':List Value} (h:LRel m l l'):VRel m (.tuple l.toArray) (.tuple l'.toArray):=.tuple _ _ (by simpa using h.1) h.arr
theorem gt {v:Value} (h:de v=true):cellsOf v=[v]:=by cases v <;> first | rfl | cases h
theorem jR {v:Value} (h:de v=true):v.oneCell'=true:=by cases v <;> first | rfl | cases h
theorem m6 {m:M ω} {v v':Value} (h:VRel m v v'):LRel m (cellsOf v) (cellsOf v'):=by
 cases h with
 | tok k h=>rw [gt h];exact LRel.cons (.tok k h) (LRel.nil m)
 | any v h=>rw [gt h];exact LRel.cons (.any _ h) (LRel.nil m)
 | agg cs cs' hs h=>exact LRel.of_arr hs h
 | plain v h=>cases v <;> first | exact LRel.cons (.plain _ h) (LRel.nil m) | (simp [am] at h)
 | ptr a a' h=>exact LRel.cons (.ptr a a' h) (LRel.nil m)
 | slice a a' n c c' h hc hn=>exact LRel.cons (.slice a a' n c c' h hc hn) (LRel.nil m)
 | slice0 a a' h=>exact LRel.cons (.slice0 a a' h) (LRel.nil m)
 | map b i h=>exact LRel.cons (.map b i h) (LRel.nil m)
 | iface t v v' h=>exact LRel.cons (.iface t v v' h) (LRel.nil m)
 | tuple cs cs' hs h=>exact LRel.cons (.tuple cs cs' hs h) (LRel.nil m)
 | func f fs fs' cs cs' h1 h2 h k=>exact LRel.cons (.func f fs fs' cs cs' h1 h2 h k) (LRel.nil m)
 | yield b i h=>exact LRel.cons (.yield b i h) (LRel.nil m)
theorem oF {m:M ω} {v v':Value} (h:VRel m v v') (ho:de v=true):v'.oneCell'=true:=by
 cases h with
 | tok k h=>exact jR h
 | any v h=>exact jR h
 | plain v h=>cases v <;> first | rfl | (simp [am] at h)
 | agg cs cs' hs h=>simp [de] at ho
 | tuple cs cs' hs h=>simp [de] at ho
 | _=>rfl
theorem add_lit (r o i:Nat):(⟨r,o,none⟩:Addr).add i=⟨r,o+i,none⟩:=by unfold Addr.add;split <;> simp_all
theorem gG {B:Nat} {X:cK} {m:M ω} {s:AS} {w:World} (h:SR B X m s w) {b:Nat} {k:aa} (hb:fQ s b=some k) {i:eP} (hi:m b=some i) :
 s.h.get b=some (.cells k)/\gD m w i (.cells k)/\B<=i.r/\i.r<w.heap.size:=by
 unfold fQ at hb
 cases hg:s.h.get b with
 | none=>simp [hg] at hb
 | some o =>
  cases o with
  | cells k' =>
   simp [hg] at hb;subst hb;obtain ⟨h2,h3,h4⟩:=h.rel b _ i hg rfl hi;exact ⟨rfl,h2,h3,h4⟩
  | _=>simp [hg] at hb
theorem aL {B:Nat} {X:cK} {m:M ω} {s:AS} {w:World} (h:SR B X m s w) {a a':Addr} {n:Nat} {l:List Value} (hr:cq s a n=some l) (ha:iz m a a') :
 ∃ l',LRel m l l'/\l'.length=n/\∀ j v,l'[j]?=some v->w.cell? (a'.add j)=some v:=by
 unfold cq at hr;obtain ⟨hs,i,hi,rfl⟩:=ha;rw [hs] at hr
 cases hk:fQ s a.block with
 | none=>simp [hk] at hr
 | some k =>
  simp only [hk] at hr;obtain ⟨h2,⟨e1,e2,e4,e3,c',fz,hc,hsz,hcell,_⟩,_,_⟩:=gG h hk hi
  cases hb:Nat.ble (a.off+n) k.len with
  | false=>simp [hb] at hr
  | true =>
   simp only [hb,cond_true] at hr;have hle:a.off+n<=k.len:=Nat.le_of_ble_eq_true hb;obtain ⟨hl,hg⟩:=T.iy k.c n a.off l hr;refine ⟨(List.range n).map fun j=>c'.getD (i.d+(a.off+j)) undef,⟨by simp [hl],fun j v v' hv hv'=>?_⟩,by simp,fun j v hv=>?_⟩
   ·have hj:j<n:=by have:=(lS.1 hv).1;omega
    obtain ⟨x,x',hx,hx',hxr⟩:=hcell (a.off+j) (by omega);rw [<-hg j hj,hx] at hv
    cases hv
    simp [hj] at hv';rw [aS] at hx';obtain ⟨hlt,rfl⟩:=hx';simp [hlt] at hv';subst hv';exact hxr
   ·have hj:j<n:=by have:=(lS.1 hv).1;simpa using this
    simp [hj] at hv;obtain ⟨x,x',hx,hx',hxr⟩:=hcell (a.off+j) (by omega);rw [add_lit,cell_of_row w i.r _ c' k.elem fz hc]
    have e:i.d+a.off+j=i.d+(a.off+j):=by omega
    rw [e,hx'];rw [aS] at hx';obtain ⟨hlt,rfl⟩:=hx';simp [hlt] at hv;rw [hv]
theorem bI {b:Nat} {e:TypeId} {fz:Nat × Nat}:∀ (vs:List Value) (o:Nat) (w:World) (c:Array Value),w.heap[b]?=some (.cells c e fz) ->
 ∃ c2:Array Value,(w.setCells b o vs).heap[b]?=some (.cells c2 e fz)/\c2.size=c.size/\∀ j,c2[j]?=if o<=j/\j<o+vs.length/\j<c.size then vs[j-o]? else c[j]?
 | [],o,w,c,h=>⟨c,h,rfl,fun j=>by simp;intros;omega⟩
 | v::r,o,w,c,h=>by
  have h1:(w.setCell ⟨b,o,none⟩ v).heap[b]?=some (.cells (c.setIfInBounds o v) e fz):=by
   simp [World.setCell,Array.getElem?_modify,h]
  obtain ⟨c2,g1,g2,g3⟩:=bI r (o+1) _ _ h1;refine ⟨c2,g1,by simpa using g2,fun j=>?_⟩;rw [g3 j];simp only [Array.size_setIfInBounds,List.length_cons];by_cases hj:o+1<=j/\j<o+1+r.length/\j<c.size
  ·rw [if_pos hj,if_pos (by omega),show j-o=(j-(o+1))+1 by omega];rfl
  ·rw [if_neg hj];by_cases hjo:j=o
   ·subst hjo;by_cases hlt:j<c.size
    ·rw [if_pos (by omega),Array.getElem?_setIfInBounds_self_of_lt hlt,Nat.sub_self];rfl
    ·rw [if_neg (by omega),Array.getElem?_eq_none (by simp;omega),Array.getElem?_eq_none (by omega)]
   ·rw [if_neg (by omega),Array.getElem?_setIfInBounds_ne (by omega)]
theorem heap_setCells_other {b:Nat}:∀ (vs:List Value) (o:Nat) (w:World) (k:Nat),k≠b->(w.setCells b o vs).heap[k]?=w.heap[k]?
 | [],_,_,_,_=>rfl
 | v::r,o,w,k,h=>by rw [World.setCells,heap_setCells_other r (o+1) _ k h];exact Below.heap_setCell w ⟨b,o,none⟩ v k h
theorem size_setCells {b:Nat}:∀ (vs:List Value) (o:Nat) (w:World),(w.setCells b o vs).heap.size=w.heap.size
 | [],_,_=>rfl
 | v::r,o,w=>by rw [World.setCells,size_setCells r (o+1)];simp [World.setCell]
theorem below_setCells {B b:Nat} (hB:B<=b):∀ (vs:List Value) (o:Nat) (w:World),Below B w (w.setCells b o vs)
 | [],_,w=>bR _ _
 | v::r,o,w=>by rw [World.setCells];exact ((bR B w).setCell (p:=⟨b,o,none⟩) hB v).trans (below_setCells hB r (o+1) _)
theorem gD.other {m:M ω} {w w':World} {i:eP} {o:AObj} (h:gD m w i o) (hb:w'.heap[i.r]?=w.heap[i.r]?):gD m w' i o:=by
 cases o with
 | cells b=>obtain ⟨a1,a2,a4,a3,c',fz,hc,r⟩:=h;exact ⟨a1,a2,a4,a3,c',fz,by rw [hb];exact hc,r⟩
 | map es c=>obtain ⟨es',hc,r⟩:=h;exact ⟨es',by rw [hb];exact hc,r⟩
 | loop t n ps a c st=>obtain ⟨r,hc,k⟩:=h;exact ⟨r,by rw [hb];exact hc,k⟩
 | mit b si se la=>obtain ⟨h0,r,hc,k⟩:=h;exact ⟨h0,r,by rw [hb];exact hc,k⟩
 | sit q p=>obtain ⟨h0,hc⟩:=h;exact ⟨h0,by rw [hb];exact hc⟩
 | dead=>trivial
theorem gD.mono {m m':M ω} (hl:Le m m') {w:World} {i:eP} {o:AObj} (h:gD m w i o):gD m' w i o:=by
 cases o with
 | cells b=>obtain ⟨a1,a2,a4,a3,c',fz,hc,h1,h2,h3⟩:=h;exact ⟨a1,a2,a4,a3,c',fz,hc,h1,fun j hj=>by obtain ⟨v,v',x,y,z⟩:=h2 j hj;exact ⟨v,v',x,y,z.mono hl⟩,h3⟩
 | map es c=>obtain ⟨es',hc,h1,h2⟩:=h;exact ⟨es',hc,h1,fun k e e' a b=>by obtain ⟨x,y,z,u⟩:=h2 k e e' a b;exact ⟨x,y,z.mono hl,u⟩⟩
 | loop t n ps a c st=>obtain ⟨r,h1,h2,h3,h4,h5,h6,h7⟩:=h;exact ⟨r,h1,h2,h3,h4,h5,h6,fun k=>(h7 k).mono hl⟩
 | mit b si se la=>obtain ⟨h0,r,hc,k⟩:=h;exact ⟨h0,r,hc,k.imp id fun ⟨c,j,a1,a2,a3⟩=>⟨c,j,a1,hl _ _ a2,a3⟩⟩
 | sit q p=>exact h
 | dead=>trivial
theorem ep {B:Nat} {X:cK} {m:M ω} {s:AS} {w:World} (h:SR B X m s w) {b:Nat} {o o':AObj} {i:eP} (hg:s.h.get b=some o) (ha:o.alive=true) (hi:m b=some i) {w1:World} (hsz:w1.heap.size=w.heap.size)
 (hold:∀ k,k≠i.r->w1.heap[k]?=w.heap[k]?) (ho:gD m w1 i o'):SR B X m ⟨s.n,s.h.put b o'⟩ w1:=by
 obtain ⟨_,e2,e3⟩:=h.rel b o i hg ha hi
 have key:∀ c p,(s.h.put b o').get c=some p->(c=b/\p=o')\/(c≠b/\s.h.get c=some p):=by
  intro c p hc;rw [T.get_put] at hc;by_cases hcb:c=b
  ·rw [if_pos hcb] at hc;cases hc;exact .inl ⟨hcb,rfl⟩
  ·rw [if_neg hcb] at hc;exact .inr ⟨hcb,hc⟩
 refine ⟨?_,?_,?_,h.freshM,?_,?_,fun c j hj=>by rw [hsz];exact h.lt c j hj⟩
 ·intro c p j hc hp hj
  rcases key c p hc with ⟨rfl,rfl⟩ | ⟨hne,hc⟩
  ·rw [hi] at hj;cases hj;exact ⟨ho,e2,by omega⟩
  ·obtain ⟨f2,f3,f4⟩:=h.rel c p j hc hp hj;exact ⟨f2.other (hold _ (h.inj c b p o j i hc hg hp ha hne hj hi)),f3,by omega⟩
 ·intro c d p q x y hc hd hp hq hne hx hy
  have al:∀ c p,(s.h.put b o').get c=some p->p.alive=true->∃ q,s.h.get c=some q/\q.alive=true:=by
   intro c p hc hp
   rcases key c p hc with ⟨rfl,rfl⟩ | ⟨hne,hc⟩
   ·exact ⟨o,hg,ha⟩
   ·exact ⟨p,hc,hp⟩
  obtain ⟨p',hc',hp'⟩:=al c p hc hp;obtain ⟨q',hd',hq'⟩:=al d q hd hq;exact h.inj c d p' q' x y hc' hd' hp' hq' hne hx hy
 ·intro c hc;have hc':s.n<=c:=hc;show (s.h.put b o').get c=none;rw [T.get_put];by_cases hcb:c=b
  ·subst hcb;rw [h.freshH c hc'] at hg;cases hg
  ·rw [if_neg hcb];exact h.freshH c hc'
 ·intro c p hc;obtain ⟨k1,k2⟩:=h.gh c p hc;refine ⟨?_,k2⟩;show (s.h.put b o').get c=some p;rw [T.get_put,if_neg (fun e=>by rw [e,hi] at k2;cases k2)];exact k1
 ·intro r q hr;obtain ⟨k1,k2,k3⟩:=h.kp r q hr;exact ⟨by rw [hold r (k3 b i hi).symm];exact k1,k2,k3⟩
theorem dR {B:Nat} {X:cK} {m:M ω} {s s':AS} {w:World} {P:Program} (h:SR B X m s w) {a a':Addr} {l l':List Value} (hr:eY s a l=some s') (ha:iz m a a') (hl:LRel m l l') :
 ∃ w',(storeCells a' l').run P w=.ok () w'/\SR B X m s' w'/\Below B w w':=by
 unfold eY at hr;obtain ⟨hs,i,hi,rfl⟩:=ha;rw [hs] at hr
 cases hk:fQ s a.block with
 | none=>simp [hk] at hr
 | some k =>
  simp only [hk] at hr;obtain ⟨hget,⟨e1,e2,e4,e3,c',fz,hc,hsz,hcell,hfz⟩,hB,hlt⟩:=gG h hk hi
  cases hb:(Nat.ble (a.off+l.length) k.len && l.all de) with
  | false=>simp [hb] at hr
  | true =>
   simp only [hb,cond_true,Option.some.injEq] at hr;subst hr;rw [Bool.and_eq_true] at hb;have hle:a.off+l.length<=k.len:=Nat.le_of_ble_eq_true hb.1;have hone:=List.all_eq_true.1 hb.2;have hll:=hl.1
   have hst:=run_storeCells_cells (P:=P) i.r (i.d+a.off) l' 0 w
    (fun j hj=>by
     obtain ⟨x,x',hx,hx',_⟩:=hcell (a.off+j) (by omega)
     rw [cell_of_row w i.r _ c' k.elem fz hc,show i.d+a.off+0+j=i.d+(a.off+j) by omega,hx'];rfl)
    (fun j hj=>by
     simp only [World.frozen?,hc]
     rcases hfz with e | ⟨e,_⟩ <;> rw [e] <;> simp
     omega)
    (fun v hv=>by
     obtain ⟨j,hj⟩:=List.mem_iff_getElem?.1 hv
     have hjl:j<l.length:=by have:=(lS.1 hj).1;omega
     exact oF (hl.2 j _ v (gE hjl) hj) (hone _ (List.getElem_mem hjl)))
   simp only [Nat.add_zero] at hst;obtain ⟨c2,g1,g2,g3⟩:=bI l' (i.d+a.off) w c' hc;refine ⟨_,hst,ep h hget rfl hi (size_setCells _ _ _) (fun k hk=>heap_setCells_other _ _ _ _ hk) ?_,below_setCells hB _ _ _⟩;refine ⟨e1,e2,e4,e3,c2,fz,g1,by rw [g2];exact hsz,fun j hj=>?_,hfz⟩;rw [T.br,g3];have hj':j<k.len:=hj;by_cases hin:a.off<=j/\j<a.off+l.length
   ·rw [if_pos hin,if_pos (by omega)]
    have e:i.d+j-(i.d+a.off)=j-a.off:=by omega
    rw [e];refine ⟨_,_,gE (by omega),gE (by omega),hl.2 (j-a.off) _ _ (gE (by omega)) (gE (by omega))⟩
   ·rw [if_neg hin,if_neg (by omega)];exact hcell j hj
def ext (m:M ω) (n:Nat) (i:eP):M ω:=fun b=>if b=n then some i else m b
theorem tT {m:M ω} {n:Nat} {i:eP} (h:m n=none):Le m (ext m n i):=fun b x hx=>by
 unfold ext;by_cases hb:b=n
 ·subst hb;rw [h] at hx;cases hx
 ·rw [if_neg hb];exact hx
theorem ba (m:M ω) (n:Nat) (i:eP):ext m n i n=some i:=by simp [ext]
def cK.del (X:cK) (b:Nat):cK:=⟨fun c=>if c=b then none else X.G c,X.K⟩
def cK.add (X:cK) (b:Nat) (o:AObj):cK:=⟨fun c=>if c=b then some o else X.G c,X.K⟩
theorem SR.ghosts {B:Nat} {X Y:cK} {m:M ω} {s:AS} {w:World} (h:SR B X m s w) (hG:∀ b o,Y.G b=some o->X.G b=some o) (hK:∀ r o,Y.K r=some o->X.K r=some o):SR B Y m s w :=
 ⟨h.rel,h.inj,h.freshH,h.freshM,fun b o k=>h.gh b o (hG b o k),fun r o k=>h.kp r o (hK r o k),h.lt⟩
theorem nD {B:Nat} {X:cK} {m:M ω} {s:AS} {w:World} (h:SR B X m s w) (o:AObj):SR B (X.add s.n o) m ⟨s.n+1,s.h.put s.n o⟩ w:=by
 have hm:=h.freshM s.n (nR _)
 have hg:∀ c p j,(s.h.put s.n o).get c=some p->m c=some j->s.h.get c=some p:=by
  intro c p j hc hj;rw [T.get_put] at hc;by_cases hcb:c=s.n
  ·rw [hcb,hm] at hj;cases hj
  ·rwa [if_neg hcb] at hc
 refine ⟨fun c p j hc hp hj=>h.rel c p j (hg c p j hc hj) hp hj,fun c d p q x y hc hd hp hq hne hx hy=>h.inj c d p q x y (hg c p x hc hx) (hg d q y hd hy) hp hq hne hx hy,?_,?_,?_,h.kp,h.lt⟩
 ·intro c hc;have hc':s.n+1<=c:=hc;show (s.h.put s.n o).get c=none;rw [T.get_put,if_neg (by omega)];exact h.freshH c (by omega)
 ·intro c hc;have hc':s.n+1<=c:=hc;exact h.freshM c (by omega)
 ·intro c p hc;show (s.h.put s.n o).get c=some p/\_;rw [T.get_put];have hc':(if c=s.n then some o else X.G c)=some p:=hc;by_cases hcb:c=s.n
  ·rw [if_pos hcb] at hc' ⊢;exact ⟨hc',by rw [hcb];exact hm⟩
  ·rw [if_neg hcb] at hc' ⊢;exact h.gh c p hc'
theorem p6 {B:Nat} {X:cK} {m:M ω} {s:AS} {w w1:World} {b:Nat} {o:AObj} (h:SR B X m s w) (hb:X.G b=some o) (i:eP) (hB:B<=w.heap.size) (hr:i.r=w.heap.size) (hsz:w1.heap.size=w.heap.size+1)
 (hold:∀ k,k<w.heap.size->w1.heap[k]?=w.heap[k]?) (ho:gD m w1 i o):SR B (X.del b) (ext m b i) s w1/\Le m (ext m b i):=by
 obtain ⟨hg,hm⟩:=h.gh b o hb;have hle:Le m (ext m b i):=tT hm
 have hbn:b<s.n:=Nat.lt_of_not_le fun e=>by rw [h.freshH b e] at hg;cases hg
 have key:∀ (d:Nat) (v:eP),ext m b i d=some v->(d=b/\v=i)\/(d≠b/\m d=some v):=by
  intro d v hv;unfold ext at hv;by_cases hd:d=b
  ·rw [if_pos hd] at hv;cases hv;exact .inl ⟨hd,rfl⟩
  ·rw [if_neg hd] at hv;exact .inr ⟨hd,hv⟩
 refine ⟨⟨?_,?_,h.freshH,?_,?_,?_,fun d v hv=>by
  rcases key d v hv with ⟨rfl,rfl⟩ | ⟨_,hv'⟩
  ·omega
  ·have:=h.lt d v hv';omega⟩,hle⟩
 ·intro c p j hc hp hj
  rcases key c j hj with ⟨rfl,rfl⟩ | ⟨hne,hj'⟩
  ·rw [hg] at hc;cases hc;exact ⟨ho.mono hle,by omega,by omega⟩
  ·obtain ⟨q2,q3,q4⟩:=h.rel c p j hc hp hj';exact ⟨(q2.mono hle).other (hold _ q4),q3,by omega⟩
 ·intro c d p q x y hc hd hp hq hne hx hy
  rcases key c x hx with ⟨rfl,rfl⟩ | ⟨hne1,hx'⟩
  ·rcases key d y hy with ⟨rfl,rfl⟩ | ⟨hne2,hy'⟩
   ·exact absurd rfl hne
   ·have:=(h.rel d q y hd hq hy').2.2;omega
  ·have h1:=(h.rel c p x hc hp hx').2.2
   rcases key d y hy with ⟨rfl,rfl⟩ | ⟨hne2,hy'⟩
   ·omega
   ·exact h.inj c d p q x y hc hd hp hq hne hx' hy'
 ·intro c hc;unfold ext;rw [if_neg (by omega)];exact h.freshM c hc
 ·intro c p hc;have hc':(if c=b then none else X.G c)=some p:=hc;by_cases hcb:c=b
  ·rw [if_pos hcb] at hc';cases hc'
  ·rw [if_neg hcb] at hc';obtain ⟨k1,k2⟩:=h.gh c p hc';exact ⟨k1,by unfold ext;rw [if_neg hcb];exact k2⟩
 ·intro r q hr';obtain ⟨k1,k2,k3⟩:=h.kp r q hr';have hlt:r<w.heap.size:=(aS.1 k1).1;refine ⟨by rw [hold r hlt];exact k1,k2,fun d v hv=>?_⟩
  rcases key d v hv with ⟨rfl,rfl⟩ | ⟨_,hv'⟩
  ·omega
  ·exact k3 d v hv'
theorem jS {B:Nat} {X:cK} {m:M ω} {s:AS} {w w1:World} (h:SR B X m s w) (o:AObj) (i:eP) (hB:B<=w.heap.size) (hr:i.r=w.heap.size) (hsz:w1.heap.size=w.heap.size+1)
 (hold:∀ k,k<w.heap.size->w1.heap[k]?=w.heap[k]?) (ho:gD m w1 i o) :
 SR B X (ext m s.n i) ⟨s.n+1,s.h.put s.n o⟩ w1/\Le m (ext m s.n i):=by
 obtain ⟨h1,h2⟩:=p6 (nD h o) (b:=s.n) (o:=o) (by simp [cK.add]) i hB hr hsz hold ho;refine ⟨h1.ghosts (fun b p hb=>?_) (fun r p hr=>hr),h2⟩
 have hne:b≠s.n:=fun e=>by
  have:=(h.gh b p hb).1;rw [e,h.freshH s.n (nR _)] at this;cases this
 simp [cK.del,cK.add,hne,hb]
def jj (B:Nat) (m:M ω) (w:World) (o:AObj) (f:Nat->Value) (res:Result Next):Prop :=
 ∃ v' w1 i,res=.ok (.value v') w1/\i.r=w.heap.size/\w1.heap.size=w.heap.size+1/\(∀ k,k<w.heap.size->w1.heap[k]?=w.heap[k]?)/\Below B w w1/\gD m w1 i o/\∀ (m':M ω) (b:Nat),m' b=some i->VRel m' (f b) v'
theorem oG {m:M ω} {w:World} {l l':List Value} (hl:LRel m l l') (e:TypeId) (esz:Nat) :
 gD m (w.alloc (.cells l'.toArray e)) ⟨w.heap.size,0,l.length,esz,false,l.length⟩ (nA l e esz false false):=by
 refine ⟨rfl,rfl,rfl,by simp,l'.toArray,(0,0),heap_alloc_new w _,by simpa using hl.1.symm,fun j hj=>?_,.inl rfl⟩;have hj':j<l.length:=hj;rw [T.br,if_pos (by simp;omega)];refine ⟨l[j],l'[j]'(by rw [<-hl.1];exact hj'),by simp,by simp [show j<l'.length by rw [<-hl.1];exact hj'],?_⟩;exact hl.2 j _ _ (gE hj') (gE (by rw [<-hl.1];exact hj'))
end Go.Proofs.YtgohffhoapkeaaaGreatDoor.Ev
namespace Go.Proofs.YtgohffhoapkeaaaGreatDoor.Ev
open Go.RowKit
variable {ω:Nat->Value}
structure aM (ω:Nat->Value) (C:Ctx):Prop where
 fn:∀ g f,C.fn g=some f->C.P.funcs[g]?=some f
 call:∀ g f,C.fn g=some f->f.body.isSome=true->∀ args w,(callFunc g args).run C.P w=.ok (.enter g args) w
 ty:∀ t i,C.ty t=some i->C.P.info? t=some i
 un:∀ t d,C.un t=some d->C.P.underlying t=some d
 zero:∀ t i z,C.ty t=some i->i.zero=some z->tI z=false->(cellsOf z).all am=true/\i.size=(cellsOf z).length
 bin:∀ op t ox oy x y v,C.bin op t x y=some v->∀ (m:M ω) (x' y':Value) (w:World),VRel m x x'->VRel m y y'->∃ v',(do eqGuard op t ox oy x' y';binOp op t x' y':Sem Value).run C.P w=.ok v' w/\VRel m v v'
 len:∀ t k v,C.len t (.chan k)=some v->∀ (m:M ω) (x':Value) (ty:TypeId) (w:World),VRel m (.chan k) x'->∃ v',(Builtin.len_ #[t] ty #[x']).run C.P w=.ok v' w/\VRel m v v'
 cnv:∀ src dst x v,C.cnv src dst x=some v->∀ (m:M ω) (x':Value) (w:World),VRel m x x'->∃ v',(convert src dst x').run C.P w=.ok v' w/\VRel m v v'
 meth:∀ t name v g rv,C.meth t name v=some (g,rv)->∀ (m:M ω) (v':Value),VRel m v v'->∃ rv',VRel m rv rv'/\∀ w,(method (C.P.types.size+Made.depth) t v' name).run C.P w=.ok (g,rv') w
 places:∀ t fs,C.un t=some (.struct fs)->∃ ps,fs.toList.mapM (fun f=>(C.P.info? f.type).map fun i=>(f.offset,i.size))=some ps
def Jf (w:World) (B:Nat) (v:Value):Prop:=v=.slice none 0 0 \/
 ∃ (p:Addr) (n c:Nat) (news:List Value),v=.slice (some p) n c/\n<=1000000/\(0<n->p.block<B)/\news.length=n/\(∀ (j:Nat) (u:Value),news[j]?=some u->w.cell? (p.add j)=some u)/\∀ u∈news,de u=true
structure Bs (ω:Nat->Value) (C:Ctx) (B:Nat) (w:World):Prop where
 le:B<=w.heap.size
 gl:∀ g v,C.glob g=some v->g<B/\∃ v',w.cell? ⟨g,0,none⟩=some v'/\∀ m:M ω,VRel m v v'
 rd:∀ k,C.rd k=true->Jf w B (ω k)
 iv:∀ g cs,C.iv g=some cs->g<B/\∃ t fz,w.heap[g]?=some (.cells cs t fz)
theorem Bs.next {C:Ctx} {B:Nat} {w w':World} (h:Bs ω C B w) (hb:Below B w w'):Bs ω C B w' :=
 ⟨nT h.le hb.size,fun g v hv=>⟨(h.gl g v hv).1,by obtain ⟨h1,v',h2,h3⟩:=h.gl g v hv;exact ⟨v',by rw [hb.cell (p:=⟨g,0,none⟩) h1];exact h2,h3⟩⟩,fun k hk=>by
  rcases h.rd k hk with e | ⟨p,n,c,news,h1,h2,h3,h4,h5,h6⟩
  ·exact .inl e
  ·refine .inr ⟨p,n,c,news,h1,h2,h3,h4,fun j u hu=>?_,h6⟩
   have hj:j<n:=by have:=(lS.1 hu).1;omega
   rw [hb.cell (p:=p.add j) (by have:=h3 (by omega);unfold Addr.add;split <;> simpa using this)]
   exact h5 j u hu,fun g cs hv=>by
  obtain ⟨h1,t,fz,h2⟩:=h.iv g cs hv
  exact ⟨h1,t,fz,(hb.block g h1).trans h2⟩⟩
structure TR (m:M ω) (n:Nat) (a:T Value) (act:Act):Prop where
 size:act.tmps.size=n
 rel:∀ t,VRel m ((a.get t).getD undef) (act.tmps.getD t undef)
theorem TR.mono {m m':M ω} (hl:Le m m') {n:Nat} {a:T Value} {act:Act} (h:TR m n a act):TR m' n a act:=⟨h.size,fun t=>(h.rel t).mono hl⟩
def IY (m:M ω):R->Next->Prop
 | .val v,.value v'=>VRel m v v'
 | .skip,.skip=>True
 | _,_=>False
def bD (C:Ctx) (B:Nat) (X:cK) (m:M ω) (s':AS) (w:World) (r:R) (res:Result Next):Prop :=
 match r with
 | .call g vs=>∃ args',LRel m vs args'.toList/\res=(callFunc g args').run C.P w/\SR B X m s' w
 | .round b vs=>∃ i args',m b=some i/\LRel m vs args'.toList/\res=(Instr.yield i.r args').run C.P w/\SR B X m s' w
 | r=>∃ nx w' m',res=.ok nx w'/\Le m m'/\SR B X m' s' w'/\Below B w w'/\IY m' r nx
def bc (B:Nat) (X:cK) (m:M ω) (s':AS) (w:World) (v:Value) (res:Result Value):Prop :=
 ∃ v' w' m',res=.ok v' w'/\Le m m'/\SR B X m' s' w'/\Below B w w'/\VRel m' v v'
section
variable {C:Ctx} {B:Nat} {X:cK} {m:M ω} {s s':AS} {w:World} {a:T Value} {act:Act} {n:Nat}
theorem bc.same {v v':Value} {res:Result Value} (h:SR B X m s w) (hr:res=.ok v' w) (hv:VRel m v v'):bc B X m s w v res :=
 ⟨v',w,m,hr,Le.refl _,h,bR _ _,hv⟩
theorem bc.op {v:Value} {t:Sem Value} (h:bc B X m s' w v (t.run C.P w)):bD C B X m s' w (.val v) ((do let x <-t;pure (Next.value x):Sem Next).run C.P w):=by
 obtain ⟨v',w',m',hr,hl,hs,hb,hv⟩:=h;exact ⟨.value v',w',m',by simp [hr],hl,hs,hb,hv⟩
theorem iD {v v':Value} (h:VRel m v v') (hp:bi v=true):v'=v:=by
 cases h with
 | agg cs cs' hs h =>
  simp only [bi] at hp
  have:cs'=cs:=by
   apply Array.ext';apply List.ext_getElem?;intro i;by_cases hi:i<cs.size
   ·have h1:=fY cs i hi;have h2:=fY cs' i (by omega);rw [h1,h2];have:=aK (h i hi) (List.all_eq_true.1 hp _ (mG h1));rw [this]
   ·rw [List.getElem?_eq_none (by simp;omega),List.getElem?_eq_none (by simp;omega)]
  rw [this]
 | iface t u u' h=>simp only [bi] at hp;rw [aK h hp]
 | plain v h=>rfl
 | _=>simp [bi,am] at hp
theorem gu {v:Value} (hp:bi v=true):VRel m v v:=by
 cases v with
 | agg cs =>
  simp only [bi] at hp;refine .agg cs cs rfl (fun i hi=>.plain _ (List.all_eq_true.1 hp _ (mG (fY cs i hi))))
 | iface t u=>simp only [bi] at hp;exact .iface t u u (.plain _ hp)
 | _=>exact .plain _ (by simpa [bi] using hp)
theorem oS (ht:TR m n a act) {x:Operand} {v:Value} (h:aQ a x=some v):VRel m v (act.eval x):=by
 cases x with
 | tmp t =>
  have hr:=ht.rel t;show VRel m v (act.tmps.getD t undef);have h':jK (a.get t)=some v:=h
  cases hg:a.get t with
  | none=>rw [hg] at h' hr;cases h';exact hr
  | some u=>rw [hg] at h' hr;cases h';exact hr
 | const u =>
  have h':tH u=some v:=h;unfold tH at h'
  cases hc:bi u with
  | false=>rw [hc] at h';cases h'
  | true=>rw [hc] at h';cases h';exact gu hc
 | global g=>cases h
 | func f=>cases h;exact .func f #[] #[] #[] #[] rfl rfl (fun i hi=>by simp at hi) (fun i hi=>by simp at hi)
theorem dN (ht:TR m n a act):∀ {xs:List Operand} {vs:List Value},fe a xs=some vs->LRel m vs (xs.map act.eval)
 | [],vs,h=>by simp [fe] at h;subst h;exact LRel.nil m
 | x::xs,vs,h=>by
  simp only [fe] at h
  cases h1:aQ a x with
  | none=>simp [h1] at h
  | some v =>
   cases h2:fe a xs with
   | none=>simp [h1,h2] at h
   | some vs' =>
    simp [h1,h2] at h;subst h;exact LRel.cons (oS ht h1) (dN ht h2)
theorem jk {P:Program} {α:Type}:∀ (t:Sem α) (x:α),eG P t=some x->∀ w,t.run P w=.ok x w:=by
 intro t
 induction t with
 | pure y=>intro x h w;simp [eG] at h;subst h;rfl
 | program k ih=>intro x h w;simp only [eG] at h;simp only [Sem.run];exact ih P x h w
 | _=>intro x h;simp [eG] at h
theorem p7 (hs:SR B X m s w) (ht:TR m n a act) {x:Operand} {r:R} (h:iB x C a s=some (r,s')) :
 bD C B X m s' w r ((pure (Next.value (act.eval x)):Sem Next).run C.P w):=by
 unfold iB at h
 cases h1:aQ a x with
 | none=>rw [h1] at h;cases h
 | some v =>
  rw [h1] at h;cases h;exact ⟨_,w,m,rfl,Le.refl _,hs,bR _ _,oS ht h1⟩
theorem ya (hs:SR B X m s w) (ht:TR m n a act) {c x y:Operand} {r:R} (h:mW c x y C a s=some (r,s')) :
 bD C B X m s' w r ((do pure (.value (if <-asBool (act.eval c) then act.eval x else act.eval y)):Sem Next).run C.P w):=by
 unfold mW at h
 cases h1:aQ a c with
 | none=>simp [h1] at h
 | some u =>
  cases h2:aQ a x with
  | none=>simp [h1,h2] at h
  | some v =>
   cases h3:aQ a y with
   | none=>simp [h1,h2,h3] at h
   | some z =>
    cases u <;> simp [h1,h2,h3] at h
    rename_i b;obtain ⟨rfl,rfl⟩:=h;have hc:=aK (oS ht h1) rfl;refine ⟨.value (if b then act.eval x else act.eval y),w,m,by simp [hc,asBool],Le.refl _,hs,bR _ _,?_⟩;show VRel m (cond b v z) (if b then act.eval x else act.eval y)
    cases b
    ·exact oS ht h3
    ·exact oS ht h2
theorem cD (hC:aM ω C) {t:TypeId} {l:List Value} (h:lN C t=some l):∃ i z,C.P.info? t=some i/\i.zero=some z/\l=cellsOf z/\l.all am=true/\i.size=l.length:=by
 unfold lN at h
 cases h1:C.ty t with
 | none=>simp [h1] at h
 | some i =>
  cases h2:i.zero with
  | none=>simp [h1,h2] at h
  | some z =>
   simp only [h1,h2] at h
   cases ht:tI z with
   | true=>rw [ht] at h;cases h
   | false =>
   rw [ht] at h;simp only [cond_false,Option.some.injEq] at h;subst h;obtain ⟨p,q⟩:=hC.zero t i z h1 h2 ht;exact ⟨i,z,hC.ty t i h1,h2,rfl,p,q⟩
theorem bj (z:Value):z.cells=(cellsOf z).toArray:=by cases z <;> rfl
theorem jj.op {o:AObj} {f:Nat->Value} {res:Result Next} (hs:SR B X m s w) (hB:B<=w.heap.size) (h:jj B m w o f res):bD C B X m ⟨s.n+1,s.h.put s.n o⟩ w (.val (f s.n)) res:=by
 obtain ⟨v',w1,i,hr,h1,h2,h3,h4,h5,h6⟩:=h;obtain ⟨k1,k2⟩:=jS hs o i hB h1 h2 h3 h5;exact ⟨.value v',w1,_,hr,k2,k1,h4,h6 _ _ (ba _ _ _)⟩
theorem tU {i:eP} (h:i.d=0) (m':M ω) (b:Nat) (hb:m' b=some i):VRel m' (xV b) (.pointer (some ⟨i.r,0,none⟩)):=.ptr _ _ ⟨rfl,i,hb,by simp [h]⟩
theorem Bb (hC:aM ω C) (hB:B<=w.heap.size) {t:TypeId} {o:AObj} {f:Nat->Value} (h:lU t C a=some (o,f)) :
 jj B m w o f ((do let x <-Instr.alloc t true (.tuple #[]);pure (Next.value x):Sem Next).run C.P w):=by
 unfold lU at h
 cases h1:lN C t with
 | none=>simp [h1] at h
 | some l =>
  simp only [h1,Option.some.injEq,Prod.mk.injEq] at h;obtain ⟨rfl,rfl⟩:=h;obtain ⟨i,z,hi,hz,rfl,hp,_⟩:=cD hC h1;refine ⟨.pointer (some ⟨w.heap.size,0,none⟩),w.alloc (.cells (cellsOf z).toArray t),_,?_,rfl,by simp,fun k hk=>Below.heap_alloc w _ k hk,(bR _ _).alloc hB _,oG (LRel.plain (m:=m) hp) t 0,fun m' b hb=>tU rfl m' b hb⟩;simp [Instr.alloc,zeroValue,typeInfo,hi,hz,newVar,newRow,bj]
theorem ER (ht:TR m n a act) (hB:B<=w.heap.size) {t:TypeId} {x:Operand} {o:AObj} {f:Nat->Value} (h:sg t x C a=some (o,f)) :
 jj B m w o f ((do let x <-Instr.box t (act.eval x);pure (Next.value x):Sem Next).run C.P w):=by
 unfold sg at h
 cases h1:aQ a x with
 | none=>simp [h1] at h
 | some v =>
  simp only [h1,Option.some.injEq,Prod.mk.injEq] at h;obtain ⟨rfl,rfl⟩:=h;have hl:=m6 (oS ht h1);refine ⟨.pointer (some ⟨w.heap.size,0,none⟩),w.alloc (.cells (cellsOf (act.eval x)).toArray t),_,?_,rfl,by simp,fun k hk=>Below.heap_alloc w _ k hk,(bR _ _).alloc hB _,oG hl t 0,fun m' b hb=>tU rfl m' b hb⟩;simp [Instr.box,newVar,newRow,bj]
theorem aE (hC:aM ω C) {t:TypeId} {k:Nat} (h:cA C t=some k):∃ i,C.P.info? t=some i/\i.size=k:=by
 unfold cA at h
 cases h1:C.ty t with
 | none=>simp [h1] at h
 | some i=>simp [h1] at h;exact ⟨i,hC.ty t i h1,h⟩
theorem cE (hC:aM ω C) {t:TypeId} {b:Bool} (h:fT C t=some b):(isAgg t).run C.P w=.ok b w:=by
 unfold fT at h
 cases h1:C.un t with
 | none=>simp [h1] at h
 | some d =>
  simp [h1] at h;subst h;have:=hC.un t d h1
  cases d <;> simp [isAgg,run_underlying this,CZ]
theorem jl (hC:aM ω C) (hs:SR B X m s w) (ht:TR m n a act) {t:TypeId} {x:Operand} {r:R} (h:vH t x C a s=some (r,s')) :
 bD C B X m s' w r ((do let x <-Instr.loadAt t (act.eval x);pure (Next.value x):Sem Next).run C.P w):=by
 unfold vH at h
 cases h1:aQ a x with
 | none=>simp [h1] at h
 | some u =>
  rw [h1] at h
  cases u <;> try (simp at h;done)
  rename_i p
  cases p with
  | none=>simp at h
  | some p =>
   obtain ⟨p',hp',hpe⟩:∃ p',iz m p p'/\act.eval x=.pointer (some p'):=by
    have:=oS ht h1;generalize act.eval x=y at this
    cases this with
    | plain v h=>simp [am] at h
    | ptr a a' h=>exact ⟨a',h,rfl⟩
   cases h2:fT C t with
   | none=>simp [h2] at h
   | some b =>
    cases b with
    | true =>
     cases h3:cA C t with
     | none=>simp [h2,h3] at h
     | some k =>
      cases h4:cq s p k with
      | none=>simp [h2,h3,h4] at h
      | some l =>
       simp [h2,h3,h4] at h;obtain ⟨rfl,rfl⟩:=h;obtain ⟨i,hi,rfl⟩:=aE hC h3;obtain ⟨l',hl,hn,hc⟩:=aL hs h4 hp';have hlc:=run_loadCells_list (P:=C.P) w p' l' hc;rw [hn] at hlc;refine bc.op (bc.same hs (v':=.agg l'.toArray) ?_ hl.agg);simp [Instr.loadAt,hpe,Instr.sureAddr,loadVar,cE hC h2,sizeOf,typeInfo,hi,hlc]
    | false =>
     cases h4:cq s p 1 with
     | none=>simp [h2,h4] at h
     | some l =>
      rw [h2] at h;simp only [h4] at h;obtain ⟨l',hl,hn,hc⟩:=aL hs h4 hp'
      match l,l',hn,hl with
      | [v],[v'],_,hl =>
       simp at h;obtain ⟨rfl,rfl⟩:=h;have hcell:=hc 0 v' rfl
       have he:p'.add 0=p':=by simp [Addr.add]
       rw [he] at hcell;refine bc.op (bc.same hs (v':=v') ?_ hl.tail.1);simp [Instr.loadAt,hpe,Instr.sureAddr,loadVar,cE hC h2,load,Sem.run,hcell]
theorem yb (hC:aM ω C) (hs:SR B X m s w) (ht:TR m n a act) (hB:Bs ω C B w) {t:TypeId} {x:Operand} {r:R} (h:mY t x C a s=some (r,s')) :
 bD C B X m s' w r ((do let x <-Instr.loadAt t (act.eval x);pure (Next.value x):Sem Next).run C.P w):=by
 unfold mY at h
 cases x with
 | global g =>
  have h':zo t g C s=some (r,s'):=h;unfold zo at h'
  split at h'
  ·rename_i v hag hg
   cases h'
   obtain ⟨_,v',hc,hv⟩:=hB.gl g v hg;refine bc.op (bc.same hs (v':=v') ?_ (hv m));show (Instr.loadAt t (.pointer (some ⟨g,0,none⟩))).run C.P w=_;simp [Instr.loadAt,Instr.sureAddr,loadVar,cE hC hag,load,Sem.run,hc]
  ·cases h'
 | tmp k=>exact jl hC hs ht h
 | const v=>exact jl hC hs ht h
 | func f=>exact jl hC hs ht h
theorem vM (hC:aM ω C) (hs:SR B X m s w) (ht:TR m n a act) {t:TypeId} {x y:Operand} {r:R} (h:lV t x y C a s=some (r,s')) :
 bD C B X m s' w r ((do Instr.storeAt t (act.eval x) (act.eval y);pure Next.skip:Sem Next).run C.P w):=by
 unfold lV at h
 cases h1:aQ a x with
 | none=>simp [h1] at h
 | some u =>
  cases h2:aQ a y with
  | none =>
   rw [h1,h2] at h
   cases u <;> first | (simp at h;done) | (rename_i p;cases p <;> simp at h)
  | some v =>
   rw [h1,h2] at h
   cases u <;> try (simp at h;done)
   rename_i p
   cases p with
   | none=>simp at h
   | some p =>
    obtain ⟨p',hp',hpe⟩:∃ p',iz m p p'/\act.eval x=.pointer (some p'):=by
     have:=oS ht h1;generalize act.eval x=y at this
     cases this with
     | plain v h=>simp [am] at h
     | ptr a a' h=>exact ⟨a',h,rfl⟩
    cases h3:cA C t with
    | none=>simp [h3] at h
    | some k =>
     cases h4:Nat.beq (cellsOf v).length k with
     | false=>simp [h3,h4] at h
     | true =>
      cases h5:eY s p (cellsOf v) with
      | none=>simp [h3,h4,h5] at h
      | some s2 =>
       simp [h3,h4,h5] at h;obtain ⟨rfl,rfl⟩:=h;obtain ⟨i,hi,rfl⟩:=aE hC h3;have hv:=m6 (oS ht h2);obtain ⟨w',hw,hs',hb⟩:=dR (P:=C.P) hs h5 hp' hv
       have hlen:(act.eval y).cells.size=i.size:=by
        rw [bj];simp;rw [<-hv.1];exact bE h4
       refine ⟨.skip,w',m,?_,Le.refl _,hs',hb,trivial⟩;have hcl:(act.eval y).cells.toList=cellsOf (act.eval y):=fX _;simp [Instr.storeAt,hpe,Instr.sureAddr,storeVar,sizeOf,typeInfo,hi,hlen,hcl,hw]
end
end Go.Proofs.YtgohffhoapkeaaaGreatDoor.Ev
