/- A part of the proof of ScanWild. No condition of its own. -/
import Derived.Test.YtgohffhoapkeaaaGreatDoorVz
import Derived.Test.YtgohffhoapkeaaaGreatDoorZc
import Derived.Test.YtgohffhoapkeaaaGreatDoorZa
import Derived.Test.YtgohffhoapkeaaaGreatDoorZb
import Derived.RangeFuncWrites
import Derived.Shelf.Strconv.Itoa0
import Derived.Shelf.Strconv.Itoa1
import Derived.Shelf.LaysM
import Derived.Shelf.Strconv.Itoa2
import Derived.Test.YtgohffhoapkeaaaGreatDoorProg
import Derived.Lib.Walk
import Derived.Lib.ItoaMem
import Derived.Lib.AppendIntMem
import Derived.WalkKit
import Derived.BigCall
import Derived.BigGuard
set_option maxHeartbeats 6400000
set_option maxRecDepth 1000000
set_option linter.unusedVariables false
namespace Go.Proofs.YtgohffhoapkeaaaGreatDoor
section
open Go.RowKit
theorem mO {B:Nat} {w:World} {a:Addr} {b:List UInt8} (h:Reads w B 1 (some a) b.length (bl b)) {m n:Nat} (hn:m+n<=b.length):Reads w B 1 (some (a.add m)) n (bl ((b.drop m).take n)):=by
 have h1:=bX (m:=m) (n:=b.length-m) h (by omega)
 have h2:Reads w B 1 (some (a.add m)) (b.drop m).length (bl (b.drop m)):=by rw [lD];exact h1
 exact bF h2 (by rw [lD];omega)
theorem rT {P:Program} {fn:Func} {p q:Tmp} {ty:TypeId} (h:fn.results=#[.cell p ty,.tmp q]) (tmps:Array Value) (w:World) (g:Nat) (t:TypeId) (cs:Array Value) (fr:Nat × Nat) (d:TypeDesc)
 (hp:tmps.getD p undef=.pointer (some ⟨g,0,none⟩)) (hg:w.heap[g]?=some (.cells cs t fr))
 (hu:P.underlying ty=some d) (hd:(match d with | .struct _ | .array _ _=>true | _=>false)=true) (hi:(P.info? ty).map (·.size)=some cs.size) :
 (results fn tmps).run P w=.ok (.tuple #[.agg cs,tmps.getD q undef]) w:=by
 have hp':tmps[p]?.getD undef=.pointer (some ⟨g,0,none⟩):=by simpa using hp
 simp [results,h,hp',asAddr,run_loadVar_row w g t ty cs fr d hg hu hd hi]
theorem au {P:Program} {ops:Array Oper} {o:Oper} {a:Act} {w:World} {K:Act->World->Prop} {Q:Exit->Act->World->Prop} {E:Prop} (hgd:o.guard=none) (ty:TypeId) (x y:Operand) (ho:o.op=.store ty x y)
 (g:Nat) (cells:Array Value) (hx:a.eval x=.pointer (some ⟨g,0,none⟩)) (hy:a.eval y=.agg cells)
 (t:TypeId) (old:Array Value) (hg:w.heap[g]?=some (.cells old t (0,0))) (hi:(P.info? ty).map (·.size)=some cells.size)
 (hold:old.size=cells.size) (h1:cells.all (·.oneCell')=true)
 (h:K (a.put o.dst undef) (w.setRow g cells)):if Region.wanted o (yielded ops a.tmps)=true then Oper.wp P o a w K Q else E:=by
 have hw:Region.wanted o (yielded ops a.tmps)=true:=by simp [Region.wanted,hgd]
 rw [if_pos hw];exact wp_store_row ty x y ho g cells hx hy t old hg hi hold h1 h
theorem eM {B:Nat} (a:Addr) (b:List UInt8) (at':Nat) (w:World) (hr:Reads w B 1 (some a) b.length (bl b)) (hl:b.length=243) (ha:at'+4<=243) :
 Calls Tryz.prog 78 #[.slice (some a) 243 243,.int .i64 at'] w fun e w'=>e=.returned (.int .u32 (aC ((b.drop at').take 4):Nat))/\w=w':=by
 have h4:((b.drop at').take 4).length=4:=by rw [lK,lD];omega
 have hs:=mO hr (m:=at') (n:=4) (by omega)
 have hs':Reads w B 1 (some (a.add at')) ((b.drop at').take 4).length (bl ((b.drop at').take 4)):=by rw [h4];exact hs
 have hN:=fun c=>dB (some (a.add at')) c ((b.drop at').take 4) w hs' (by omega);have hlt:=bW ((b.drop at').take 4);rw [h4] at hN hlt
 obtain ⟨m,HM⟩:∃ m,Hid (aC ((b.drop at').take 4)=m):=⟨_,lH rfl⟩
 rw [HM.out] at hN hlt ⊢;have hlt:m<4294967296:=hlt
 have a1:IntKind.i64.wrap ((at':Int)+4)=(at':Int)+4:=by rw [IntKind.wrap_i64];omega
 have a2:(0:Int)<=(at':Int):=by omega
 have a3:(at':Int)<=(at':Int)+4:=by omega
 have a4:(at':Int)+4<=243:=by omega
 have a5:((at':Int)+4).toNat=at'+4:=by omega
 have a6:IntKind.u32.wrap (m:Int)=(m:Int):=by rw [IntKind.wrap_u32];omega
 have a7:¬ (243=at'):=by omega
 clear hs hs' hr;go_enter Tryz.func78,Tryz.ntmps78
 go_wp2_with (go_at_call 77;refine (hN _).mono ?_;rintro e w2 ⟨rfl,rfl⟩)
 go_ret;exact ⟨rfl,rfl⟩
def xn (kind:Int) (lsn next:Nat) (da:Option Addr) (dl dc:Nat) (root pages free entries:Nat):Array Value:=#[.int .i64 kind,.int .u64 (lsn:Nat),.slice none 0 0,.int .u32 (next:Nat),.slice da dl dc,.int .u32 (root:Nat),.int .u32 (pages:Nat),.int .u32 (free:Nat),.int .u64 (entries:Nat)]
theorem AC {B:Nat} (lsn:Nat) (a:Addr) (b:List UInt8) (w:World) (hB:B<=w.heap.size) (hr:Reads w B 1 (some a) b.length (bl b)) (hl:b.length=243) :
 Calls Tryz.prog 56 #[.agg #[.int .i64 5,.int .u64 (lsn:Nat),.slice (some a) 243 243]] w fun e w' =>
  e=.returned (.tuple #[.agg (xn 5 lsn (aC (b.take 4)) none 0 0 0 0 0 0),.bool (decide (cR (ag 4 (aC (b.take 4)))=b))])/\Below w.heap.size w w':=by
 have h4:(b.take 4).length=4:=by rw [lK];omega
 have hlt:=bW (b.take 4);rw [h4] at hlt;have hlt:aC (b.take 4)<4294967296:=hlt;have hN:Hid (∀ W,Below w.heap.size w W->_):=lH fun W hW=>eM a b 0 W (hr.below (hW.mono hB)) hl (by omega);simp only [List.drop_zero] at hN
 obtain ⟨m,HM⟩:∃ m,Hid (aC (b.take 4)=m):=⟨_,lH rfl⟩
 rw [HM.out] at hN hlt ⊢;have hwa:Below w.heap.size w (w.alloc (.cells #[.int .i64 5,.int .u64 (lsn:Nat),.slice (some a) 243 243] 133)):=(bR _ w).alloc (nR _) _;have hwb:∀ o,Below w.heap.size w ((w.alloc (.cells #[.int .i64 5,.int .u64 (lsn:Nat),.slice (some a) 243 243] 133)).alloc o):=fun o=>hwa.alloc hwa.size o
 obtain ⟨w1,hw1⟩:∃ w1,w1=(w.alloc (.cells #[.int .i64 5,.int .u64 (lsn:Nat),.slice (some a) 243 243] 133)).alloc (.cells #[.int .i64 5,.int .u64 (lsn:Nat),.slice none 0 0,.int .u32 (m:Nat),.slice none 0 0,.int .u32 0,.int .u32 0,.int .u32 0,.int .u64 0] 95):=⟨_,rfl⟩
 have hb1:Below w.heap.size w w1:=by rw [hw1];exact hwb _
 have hN1:aa w1 (w.heap.size+1) 95 #[.int .i64 5,.int .u64 (lsn:Nat),.slice none 0 0,.int .u32 (m:Nat),.slice none 0 0,.int .u32 0,.int .u32 0,.int .u32 0,.int .u64 0]:=by rw [hw1];exact iW _ _ _ (by simp)
 have kS:Hid (∀ W,Below w1.heap.size w1 W->(W.cell? ⟨w.heap.size+1,0,none⟩=some (.int .i64 5)/\W.cell? ⟨w.heap.size+1,1,none⟩=some (.int .u64 (lsn:Nat))/\W.cell? ⟨w.heap.size+1,2,none⟩=some (.slice none 0 0)/\W.cell? ⟨w.heap.size+1,3,none⟩=some (.int .u32 (m:Nat))/\W.cell? ⟨w.heap.size+1,4,none⟩=some (.slice none 0 0)/\W.cell? ⟨w.heap.size+1,5,none⟩=some (.int .u32 0)/\W.cell? ⟨w.heap.size+1,6,none⟩=some (.int .u32 0)/\W.cell? ⟨w.heap.size+1,7,none⟩=some (.int .u32 0)/\W.cell? ⟨w.heap.size+1,8,none⟩=some (.int .u64 0))):=lH fun W hW=>⟨(hN1.below hW hN1.lt).cell 0,(hN1.below hW hN1.lt).cell 1,(hN1.below hW hN1.lt).cell 2,(hN1.below hW hN1.lt).cell 3,(hN1.below hW hN1.lt).cell 4,(hN1.below hW hN1.lt).cell 5,(hN1.below hW hN1.lt).cell 6,(hN1.below hW hN1.lt).cell 7,(hN1.below hW hN1.lt).cell 8⟩
 have hBd:=rO ⟨5,lsn,none,0,[],m,none,0,[],0,0,0,0⟩ w1.drew rfl hlt;have hbn:aZ (NX.n ⟨5,lsn,none,0,[],m,none,0,[],0,0,0,0⟩)=cR (ag 4 m):=rfl;rw [hbn] at hBd;unfold NX.val aJ at hBd;dsimp only [List.length_nil] at hBd;simp only [Int.natCast_zero] at hBd
 have hpl:(cR (ag 4 m)).length=243:=by unfold cR;rw [lQ,List.length_replicate,fL]
 obtain ⟨q,HQ⟩:∃ q,Hid (cR (ag 4 m)=q):=⟨_,lH rfl⟩
 rw [HQ.out] at hBd hpl ⊢;have hEq:Hid (∀ (W:World) (g:Nat),Below w.heap.size w W->aa W g 5 (bl q).toArray->_):=lH fun W g hW hG=>dI 243 243 W (rB hG rfl) (hr.below (hW.mono hB));rw [hl,hpl] at hEq;have HW1:=lH hw1;have HN1:=lH hN1;have HWB:=lH hwb;clear hw1 hN1 hwb hwa;go_enter Tryz.func56,Tryz.ntmps56
 go_wp2_with (go_at_call 78;refine (hN.out _ (HWB.out _)).mono ?_;rintro e w2 ⟨rfl,h2⟩;subst h2)
 rw [<-HW1.out];have hbd:Below w1.heap.size w1 w1.drew:=(bR _ w1).drew;refine bB 5 (fun W0=>W0.cell? ⟨w.heap.size+1,0,none⟩=some (.int .i64 5)/\W0.cell? ⟨w.heap.size+1,1,none⟩=some (.int .u64 (lsn:Nat))/\W0.cell? ⟨w.heap.size+1,2,none⟩=some (.slice none 0 0)/\W0.cell? ⟨w.heap.size+1,3,none⟩=some (.int .u32 (m:Nat))/\W0.cell? ⟨w.heap.size+1,4,none⟩=some (.slice none 0 0)/\W0.cell? ⟨w.heap.size+1,5,none⟩=some (.int .u32 0)/\W0.cell? ⟨w.heap.size+1,6,none⟩=some (.int .u32 0)/\W0.cell? ⟨w.heap.size+1,7,none⟩=some (.int .u32 0)/\W0.cell? ⟨w.heap.size+1,8,none⟩=some (.int .u64 0)) (kS.out _ hbd) (fun hHeld hTl=>?_);refine ae 0 hTl hHeld (fun hTl=>?_)
 try simp only [pT]
 refine ae 1 hTl hHeld (fun hTl=>?_)
 try simp only [pT]
 refine ae 3 hTl hHeld (fun hTl=>?_)
 try simp only [pT]
 clear hTl;refine sP 2 hBd ?_
 rintro e w3 ⟨g,e3,hg,hG,hb3⟩;subst e3;have hb3':=hbd.trans (hb3.mono hbd.size)
 refine ⟨_,rfl,(fun _=>kS.out _ hb3'),?_⟩
 try simp only [pT]
 have hE3:=hEq.out _ _ (hb1.trans (hb3'.mono hb1.size)) hG;refine sP 4 hE3 ?_;rintro e w4 ⟨e4,h4⟩;subst e4;subst h4;refine ⟨_,rfl,(fun _=>kS.out _ hb3'),?_⟩
 try simp only [pT]
 have hN3:=HN1.out.below hb3' HN1.out.lt;refine aA 5 (fun K hK=>?_);refine au rfl 95 (.tmp 2) (.tmp 69) rfl (w.heap.size+1) #[.int .i64 5,.int .u64 (lsn:Nat),.slice none 0 0,.int .u32 (m:Nat),.slice none 0 0,.int .u32 0,.int .u32 0,.int .u32 0,.int .u64 0] rfl rfl 95 _ hN3 (by kernel_rfl) rfl (by simp [Value.oneCell']) ?_
 skip
 refine hK.out _ _ (fun h=>absurd h (by decide)) ?_;clear hK K
 try simp only [pT]
 refine az 6 (fun K hK=>?_);go_simp;refine hK.out _ _ ?_;clear hK K
 try simp only [pT]
 refine cW ?_ _;go_wp2;refine bodyPost_ret (rT rfl _ _ (w.heap.size+1) 95 #[.int .i64 5,.int .u64 (lsn:Nat),.slice none 0 0,.int .u32 (m:Nat),.slice none 0 0,.int .u32 0,.int .u32 0,.int .u32 0,.int .u64 0] (0,0) _ rfl (setRow_heap _ _ _ _ _ _ hN3) Tryz.underlying95 rfl (by kernel_rfl)) rfl ?_;refine ⟨rfl,?_⟩;have hb4:=hb1.trans (hb3'.mono hb1.size);exact hb4.trans ((fS _ _ _).below (B:=w.heap.size) hb4.size (fun k hk=>by omega))
theorem jb {w:World} {base e s n c:Nat} {A:Option Addr} {xs:List Value} (h:w.ownsRow base e s (.slice A n c) n xs):∀ ad,A=some ad->base<=ad.block:=by
 rintro ad rfl
 rcases h.2 with ⟨h0,_⟩ | ⟨g,cap,cur,e1,h2,_⟩
 ·cases h0
 ·simp only [Value.slice.injEq,Option.some.injEq] at e1;rw [e1.1];exact h2
theorem AD {w:World} {B size n g o:Nat} {A:Option Addr} {xs:List Value} {u:Value} (h:Reads w B size A n xs) (hA:∀ ad,A=some ad->ad.block≠g):Reads (w.setCell ⟨g,o,none⟩ u) B size A n xs :=
 ⟨h.1,fun h0=>by
  obtain ⟨ad,e,hb,hc⟩:=h.2 h0;refine ⟨ad,e,hb,fun j x hx=>?_⟩;rw [<-hc j x hx]
  exact World.cell?_of_block (w:=w) (Below.heap_setCell w ⟨g,o,none⟩ u _ (by rw [bV];exact hA ad e))⟩
theorem AE {B:Nat} (lsn:Nat) (a:Addr) (b:List UInt8) (w:World) (hB:B<=w.heap.size) (hr:Reads w B 1 (some a) b.length (bl b)) (hl:b.length=243) :
 Calls Tryz.prog 56 #[.agg #[.int .i64 4,.int .u64 (lsn:Nat),.slice (some a) 243 243]] w fun e w'=>∃ A c,
  e=.returned (.tuple #[.agg (xn 4 lsn (aC (b.take 4)) A ((b.drop 5).take (min (5+(b.getD 4 0).toNat) 243-5)).length c 0 0 0 0),.bool (decide (cR (ag 4 (aC (b.take 4))++([UInt8.ofNat ((b.drop 5).take (min (5+(b.getD 4 0).toNat) 243-5)).length]++(b.drop 5).take (min (5+(b.getD 4 0).toNat) 243-5)))=b))]) /\
  (∀ ad,A=some ad->w.heap.size<=ad.block)/\Reads w' w'.heap.size 1 A ((b.drop 5).take (min (5+(b.getD 4 0).toNat) 243-5)).length (bl ((b.drop 5).take (min (5+(b.getD 4 0).toNat) 243-5)))/\Below w.heap.size w w':=by
 have h4:(b.take 4).length=4:=by rw [lK];omega
 have hlt:=bW (b.take 4);rw [h4] at hlt;have hlt:aC (b.take 4)<4294967296:=hlt;have hN:Hid (∀ W,Below w.heap.size w W->_):=lH fun W hW=>eM a b 0 W (hr.below (hW.mono hB)) hl (by omega);simp only [List.drop_zero] at hN
 obtain ⟨m,HM⟩:∃ m,Hid (aC (b.take 4)=m):=⟨_,lH rfl⟩
 rw [HM.out] at hN hlt ⊢;have hv:(b.getD 4 0).toNat<256:=(b.getD 4 0).toNat_lt;have hV:Hid (∀ W,Below w.heap.size w W->W.cell? ⟨a.block,a.off+4,none⟩=some (.int .u8 ((b.getD 4 0).toNat:Nat))):=lH fun W hW=>dA (hr.below (hW.mono hB)) 4 (by omega)
 obtain ⟨v,HV⟩:∃ v,Hid ((b.getD 4 0).toNat=v):=⟨_,lH rfl⟩
 rw [HV.out] at hV hv ⊢
 obtain ⟨dl,HD⟩:∃ z,Hid (min (5+v) 243-5=z):=⟨_,lH rfl⟩
 rw [HD.out]
 have hd:dl<=238:=by have:=HD.out;omega
 have hld:((b.drop 5).take dl).length=dl:=by rw [lK,lD];omega
 have hCl:Hid (∀ W,Below w.heap.size w W->_):=lH fun W hW=>eI (n:=dl) (a.add 5) 238 (bl ((b.drop 5).take dl)) (gA _) W (mO (hr.below (hW.mono hB)) (by omega)) (nT hB hW.size) (by omega);rw [show a.add 5=⟨a.block,a.off+5,none⟩ from rfl] at hCl
 obtain ⟨dd,HDD⟩:∃ v,Hid ((b.drop 5).take dl=v):=⟨_,lH rfl⟩
 rw [HDD.out] at hCl hld ⊢;rw [hld]
 have hpl:(cR (ag 4 m++([UInt8.ofNat dl]++dd))).length=243:=by unfold cR;rw [lQ,List.length_replicate,lQ,fL,lQ,hld];simp;omega
 obtain ⟨q,HQ⟩:∃ q,Hid (cR (ag 4 m++([UInt8.ofNat dl]++dd))=q):=⟨_,lH rfl⟩
 rw [HQ.out] at hpl ⊢
 have hx1:¬ (v:Int)+5<0:=by omega
 have hmin:(if (243:Int)<5+(v:Int) then (243:Int) else 5+(v:Int))=(dl:Int)+5:=by have:=HD.out;split <;> omega
 have hmin2:(if 5+(v:Int)<(243:Int) then 5+(v:Int) else (243:Int))=(dl:Int)+5:=by have:=HD.out;split <;> omega
 have hmin3:(if 5+(v:Int)<=(243:Int) then 5+(v:Int) else (243:Int))=(dl:Int)+5:=by have:=HD.out;split <;> omega
 have hmin4:min (5+(v:Int)) 243=(dl:Int)+5:=by have:=HD.out;omega
 have a1:IntKind.i64.wrap (v:Int)=(v:Int):=by rw [IntKind.wrap_i64];omega
 have a2:IntKind.i64.wrap (5+(v:Int))=5+(v:Int):=by rw [IntKind.wrap_i64];omega
 have a3:(5:Int)<=(dl:Int)+5:=by omega
 have a4:(dl:Int)+5<=243:=by omega
 have a5:((dl:Int)+5).toNat=dl+5:=by omega
 have hwa:Below w.heap.size w (w.alloc (.cells #[.int .i64 4,.int .u64 (lsn:Nat),.slice (some a) 243 243] 133)):=(bR _ w).alloc (nR _) _;have hwb:∀ o,Below w.heap.size w ((w.alloc (.cells #[.int .i64 4,.int .u64 (lsn:Nat),.slice (some a) 243 243] 133)).alloc o):=fun o=>hwa.alloc hwa.size o
 obtain ⟨w1,hw1⟩:∃ w1,w1=(w.alloc (.cells #[.int .i64 4,.int .u64 (lsn:Nat),.slice (some a) 243 243] 133)).alloc (.cells #[.int .i64 4,.int .u64 (lsn:Nat),.slice none 0 0,.int .u32 (m:Nat),.slice none 0 0,.int .u32 0,.int .u32 0,.int .u32 0,.int .u64 0] 95):=⟨_,rfl⟩
 have hb1:Below w.heap.size w w1:=by rw [hw1];exact hwb _
 have hN1:aa w1 (w.heap.size+1) 95 #[.int .i64 4,.int .u64 (lsn:Nat),.slice none 0 0,.int .u32 (m:Nat),.slice none 0 0,.int .u32 0,.int .u32 0,.int .u32 0,.int .u64 0]:=by rw [hw1];exact iW _ _ _ (by simp)
 have hV1:=hV.out _ hb1;have hC1:=hCl.out _ hb1;have HW1:=lH hw1;have HN1:=lH hN1;have HWB:=lH hwb;clear hw1 hN1 hwb hwa hV hCl;go_enter Tryz.func56,Tryz.ntmps56
 go_wp2_with (first
  | (go_at_call 78;refine (hN.out _ (HWB.out _)).mono ?_;rintro e w2 ⟨rfl,h2⟩;subst h2)
  | (rw [<-HW1.out])
  | (go_at_call 79;refine hC1.mono ?_;rintro e w2 ⟨A2,c2,rfl,ho2,hb2⟩;have hN2:=HN1.out.below hb2 HN1.out.lt;have k4:w2.cell? ⟨w.heap.size+1,4,none⟩=some (.slice none 0 0):=hN2.cell 4;have k4f:=hN2.frozen 4))
 have hN3:=hN2.set_ 4 (.slice A2 dl c2);have hb3:Below w.heap.size w (w2.setCell ⟨w.heap.size+1,4,none⟩ (.slice A2 dl c2)):=(hb1.trans (hb2.mono hb1.size)).setCell (p:=⟨w.heap.size+1,4,none⟩) (Nat.le_succ _) _;have hA2:∀ ad,A2=some ad->w1.heap.size<=ad.block:=jb ho2;have hlw1:w.heap.size+1<w1.heap.size:=HN1.out.lt;have hrd2:=Reads.of_own ho2;have hrd3:Reads (w2.setCell ⟨w.heap.size+1,4,none⟩ (.slice A2 dl c2)) w2.heap.size 1 A2 dl (bl dd):=AD hrd2 (fun ad had=>by have:=hA2 ad had;show ad.block≠w.heap.size+1;omega)
 have hs3:(w2.setCell ⟨w.heap.size+1,4,none⟩ (.slice A2 dl c2)).heap.size=w2.heap.size:=by simp [World.setCell]
 rw [<-hs3] at hrd3
 obtain ⟨w3,hw3⟩:∃ w3,w3=w2.setCell ⟨w.heap.size+1,4,none⟩ (.slice A2 dl c2):=⟨_,rfl⟩
 rw [<-hw3] at hN3 hb3 hrd3 ⊢;clear hw3 hs3 hrd2 ho2 hb2 hN2 k4 k4f hV1 hC1;have hN3:aa w3 (w.heap.size+1) 95 #[.int .i64 4,.int .u64 (lsn:Nat),.slice none 0 0,.int .u32 (m:Nat),.slice A2 dl c2,.int .u32 0,.int .u32 0,.int .u32 0,.int .u64 0]:=hN3
 have hrd3':Reads w3 w3.heap.size 1 A2 dd.length (bl dd):=by rw [hld];exact hrd3
 have hBd:=rP (B:=w3.heap.size) ⟨4,lsn,none,0,[],m,A2,c2,dd,0,0,0,0⟩ w3.drew rfl hlt (nR _) hrd3' (by show dd.length<=238;omega);have hbn:aZ (NX.n ⟨4,lsn,none,0,[],m,A2,c2,dd,0,0,0,0⟩)=cR (ag 4 m++([UInt8.ofNat dd.length]++dd)):=rfl;rw [hbn] at hBd;unfold NX.val aJ at hBd;dsimp only [List.length_nil] at hBd;simp only [Int.natCast_zero,hld] at hBd;rw [HQ.out] at hBd;have hEq:Hid (∀ (W:World) (g:Nat),Below w.heap.size w W->aa W g 5 (bl q).toArray->_):=lH fun W g hW hG=>dI 243 243 W (rB hG rfl) (hr.below (hW.mono hB));rw [hl,hpl] at hEq;have HRD:=lH hrd3;clear hrd3 hrd3'
 have kS:Hid (∀ W,Below w3.heap.size w3 W->(W.cell? ⟨w.heap.size+1,0,none⟩=some (.int .i64 4)/\W.cell? ⟨w.heap.size+1,1,none⟩=some (.int .u64 (lsn:Nat))/\W.cell? ⟨w.heap.size+1,2,none⟩=some (.slice none 0 0)/\W.cell? ⟨w.heap.size+1,3,none⟩=some (.int .u32 (m:Nat))/\W.cell? ⟨w.heap.size+1,4,none⟩=some (.slice A2 dl c2)/\W.cell? ⟨w.heap.size+1,5,none⟩=some (.int .u32 0)/\W.cell? ⟨w.heap.size+1,6,none⟩=some (.int .u32 0)/\W.cell? ⟨w.heap.size+1,7,none⟩=some (.int .u32 0)/\W.cell? ⟨w.heap.size+1,8,none⟩=some (.int .u64 0))):=lH fun W hW=>⟨(hN3.below hW hN3.lt).cell 0,(hN3.below hW hN3.lt).cell 1,(hN3.below hW hN3.lt).cell 2,(hN3.below hW hN3.lt).cell 3,(hN3.below hW hN3.lt).cell 4,(hN3.below hW hN3.lt).cell 5,(hN3.below hW hN3.lt).cell 6,(hN3.below hW hN3.lt).cell 7,(hN3.below hW hN3.lt).cell 8⟩
 have HN3:=lH hN3;clear hN3
 go_wp2_with fail
 have hbd:Below w3.heap.size w3 w3.drew:=(bR _ w3).drew;refine bB 5 (fun W0=>W0.cell? ⟨w.heap.size+1,0,none⟩=some (.int .i64 4)/\W0.cell? ⟨w.heap.size+1,1,none⟩=some (.int .u64 (lsn:Nat))/\W0.cell? ⟨w.heap.size+1,2,none⟩=some (.slice none 0 0)/\W0.cell? ⟨w.heap.size+1,3,none⟩=some (.int .u32 (m:Nat))/\W0.cell? ⟨w.heap.size+1,4,none⟩=some (.slice A2 dl c2)/\W0.cell? ⟨w.heap.size+1,5,none⟩=some (.int .u32 0)/\W0.cell? ⟨w.heap.size+1,6,none⟩=some (.int .u32 0)/\W0.cell? ⟨w.heap.size+1,7,none⟩=some (.int .u32 0)/\W0.cell? ⟨w.heap.size+1,8,none⟩=some (.int .u64 0)) (kS.out _ hbd) (fun hHeld hTl=>?_);refine ae 0 hTl hHeld (fun hTl=>?_)
 try simp only [pT]
 refine ae 1 hTl hHeld (fun hTl=>?_)
 try simp only [pT]
 refine ae 3 hTl hHeld (fun hTl=>?_)
 try simp only [pT]
 clear hTl;refine sP 2 hBd ?_
 rintro e w4 ⟨g,e4,hg,hG,hb4⟩;subst e4;have hb4':=hbd.trans (hb4.mono hbd.size)
 refine ⟨_,rfl,(fun _=>kS.out _ hb4'),?_⟩
 try simp only [pT]
 have hE4:=hEq.out _ _ (hb3.trans (hb4'.mono hb3.size)) hG;refine sP 4 hE4 ?_;rintro e w5 ⟨e5,h5⟩;subst e5;subst h5;refine ⟨_,rfl,(fun _=>kS.out _ hb4'),?_⟩
 try simp only [pT]
 have hN4:=HN3.out.below hb4' HN3.out.lt;refine aA 5 (fun K hK=>?_);refine au rfl 95 (.tmp 2) (.tmp 69) rfl (w.heap.size+1) #[.int .i64 4,.int .u64 (lsn:Nat),.slice none 0 0,.int .u32 (m:Nat),.slice A2 dl c2,.int .u32 0,.int .u32 0,.int .u32 0,.int .u64 0] rfl rfl 95 _ hN4 (by kernel_rfl) rfl (by simp [Value.oneCell']) ?_
 skip
 refine hK.out _ _ (fun h=>absurd h (by decide)) ?_;clear hK K
 try simp only [pT]
 refine az 6 (fun K hK=>?_);go_simp;refine hK.out _ _ ?_;clear hK K
 try simp only [pT]
 refine cW ?_ _;go_wp2;refine bodyPost_ret (rT rfl _ _ (w.heap.size+1) 95 #[.int .i64 4,.int .u64 (lsn:Nat),.slice none 0 0,.int .u32 (m:Nat),.slice A2 dl c2,.int .u32 0,.int .u32 0,.int .u32 0,.int .u64 0] (0,0) _ rfl (setRow_heap _ _ _ _ _ _ hN4) Tryz.underlying95 rfl (by kernel_rfl)) rfl ?_;have hb5:=hb3.trans (hb4'.mono hb3.size);have hb6:=hb5.trans ((fS _ (w.heap.size+1) #[.int .i64 4,.int .u64 (lsn:Nat),.slice none 0 0,.int .u32 (m:Nat),.slice A2 dl c2,.int .u32 0,.int .u32 0,.int .u32 0,.int .u64 0]).below (B:=w.heap.size) hb5.size (fun k hk=>by omega));refine ⟨A2,c2,rfl,fun ad had=>by have:=hA2 ad had;omega,?_,hb6⟩;have hq:=rM (HRD.out.below hb4') hb4'.size;rw [size_setRow];exact iX hq (fS _ _ _) (nR _) (fun ad had=>by have:=hA2 ad had;show ¬ ad.block=w.heap.size+1;omega)
theorem Cy {B:Nat} (A:Option Addr) (c:Nat) (b:List UInt8) (w:World) (hB:B<=w.heap.size) (hr:Reads w B 1 A b.length (bl b)) (hc:b.length<=c) (he:fJ b≠0) :
 Calls Tryz.prog 55 #[.slice A b.length c] w fun e w'=>e=.returned (fN (fJ b))/\Below w.heap.size w w':=by
 unfold fJ at he ⊢;by_cases h1:b.length≠256
 ·rw [if_pos h1];exact Cw A b.length c w h1
 ·rw [if_neg h1] at he ⊢;have hl:b.length=256:=Decidable.not_not.1 h1;obtain ⟨a,rfl,_⟩:=hr.2 (by omega);by_cases h2:eW b=false
  ·rw [if_pos h2];have:=Cx a c b w hB hr hl (by omega) h2;rw [hl];exact this
  ·rw [if_neg h2] at he ⊢;by_cases h3:1<=(b.getD 0 0).toNat/\(b.getD 0 0).toNat<=5
   ·rw [if_pos h3] at he;exact absurd rfl he
   ·rw [if_neg h3];have:=Ay a c b w hB hr hl (by omega) (by simpa using h2) h3;rw [hl];exact this
structure dC (L:Nat) (x:NX):Prop where
 ca:∀ ad,x.ca=some ad->L<=ad.block
 da:∀ ad,x.da=some ad->L<=ad.block
 ka:∀ y∈x.l,∀ ad,y.ka=some ad->L<=ad.block
 va:∀ y∈x.l,∀ ad,y.va=some ad->L<=ad.block
theorem dC.mono {L L':Nat} {x:NX} (h:dC L x) (hL:L'<=L):dC L' x :=
 ⟨fun ad e=>nT hL (h.ca ad e),fun ad e=>nT hL (h.da ad e),fun y hy ad e=>nT hL (h.ka y hy ad e),fun y hy ad e=>nT hL (h.va y hy ad e)⟩
theorem bf.fr {w w':World} {B:Nat} {A:Option Addr} {l:List CX} {X:Nat->Prop} (h:bf w B A l) (hf:Fr X w w') (hB:B<=w.heap.size) (h1:∀ ad,A=some ad->¬ X ad.block) (h2:∀ y∈l,∀ ad,y.ka=some ad->¬ X ad.block) (h3:∀ y∈l,∀ ad,y.va=some ad->¬ X ad.block):bf w' B A l:=by
 refine ⟨?_,fun y hy=>iX (h.key y hy) hf hB (h2 y hy),fun y hy=>iX (h.val y hy) hf hB (h3 y hy)⟩
 rcases h.row with h0 | ⟨g,o,e,hg,hc⟩
 ·exact .inl h0
 ·refine .inr ⟨g,o,e,hg,fun k y hy j u hu=>?_⟩;rw [<-hc k y hy j u hu];exact World.cell?_of_block (w:=w) (hf.block g (lT hg hB) (h1 _ e))
theorem aP.fr {w w':World} {B:Nat} {x:NX} {X:Nat->Prop} (h:aP w B x) (hf:Fr X w w') (hB:B<=w.heap.size) {L:Nat} (hL:dC L x) (hX:∀ k,X k->k<L):aP w' B x :=
 have far:∀ ad:Addr,L<=ad.block->¬ X ad.block:=fun ad h1 h2=>by have:=hX _ h2;omega
 ⟨h.cells.fr hf hB (fun ad e=>far ad (hL.ca ad e)) (fun y hy ad e=>far ad (hL.ka y hy ad e)) (fun y hy ad e=>far ad (hL.va y hy ad e)),iX h.data hf hB (fun ad e=>far ad (hL.da ad e)),h.fit,h.many,h.long⟩
def eb:Array Value:=#[.int .i64 0,.int .u64 0,.slice none 0 0,.int .u32 0,.slice none 0 0,.int .u32 0,.int .u32 0,.int .u32 0,.int .u64 0]
def pp (kind lsn:Nat) (body:List UInt8):Prop:=∀ (B:Nat) (a:Addr) (w:World),B<=w.heap.size->Reads w B 1 (some a) body.length (bl body)->body.length=243 ->
 Calls Tryz.prog 56 #[.agg #[.int .i64 (kind:Nat),.int .u64 (lsn:Nat),.slice (some a) 243 243]] w fun e w'=>∃ x:NX,e=.returned (.tuple #[x.val,.bool (cT kind lsn body).isSome])/\(∀ n,cT kind lsn body=some n->x.n=n)/\aP w' w'.heap.size x/\dC w.heap.size x/\Below w.heap.size w w'
def xo (b:List UInt8) (B:Nat) (e:Ending) (w w':World):Prop:=(match cJ b with
 | .error k=>e=.returned (.tuple #[.agg eb,.int .i64 k])
 | .ok n=>∃ x:NX,x.n=n/\e=.returned (.tuple #[x.val,.int .i64 0])/\aP w' w'.heap.size x/\dC B x)/\Below B w w'
theorem EB {B:Nat} (A:Option Addr) (c:Nat) (b:List UInt8) (w:World) (hB:B<=w.heap.size) (hr:Reads w B 1 A b.length (bl b)) (hc:b.length<=c) (he:fJ b≠0) :
 Calls Tryz.prog 36 #[.slice A b.length c] w fun e w'=>xo b w.heap.size e w w':=by
 have hg:cJ b=.error (fJ b):=by unfold cJ;rw [if_pos he]
 unfold xo;rw [hg];simp only
 obtain ⟨w1,hw1⟩:∃ w1,w1=w.alloc (.cells eb 95):=⟨_,rfl⟩
 have hb1:Below w.heap.size w w1:=by rw [hw1];exact (bR _ w).alloc (nR _) _
 have hN1:aa w1 w.heap.size 95 eb:=by rw [hw1];exact aa.new _ _ _
 have hO:=Cy A c b w1 (nT hB hb1.size) (hr.below (hb1.mono hB)) hc he
 obtain ⟨k,HK⟩:∃ k,Hid (fJ b=k):=⟨_,lH rfl⟩
 rw [HK.out] at hO he ⊢
 have k0:(k != 0)=true:=by simpa using he
 unfold fN at hO;unfold eb at hN1 hw1 ⊢;have HW1:=lH hw1;have HN1:=lH hN1;clear hw1 hN1 hr he;go_enter Tryz.func36,Tryz.ntmps36
 go_wp2_with (first
  | (rw [<-HW1.out];go_at_call 55;refine hO.mono ?_;rintro e w2 ⟨rfl,hb2⟩;have hb2a:Below w1.heap.size w1 (w2.alloc (.cells #[.int .i64 0,.int .u64 0,.slice none 0 0] 133)):=hb2.alloc hb2.size _;have hN3:=HN1.out.below hb2a HN1.out.lt)
  | (refine wpList_store_row rfl 95 (.tmp 2) (.tmp 15) rfl w.heap.size _ rfl rfl 95 _ hN3 (by kernel_rfl) rfl (by simp [Value.oneCell']) ?_))
 refine bodyPost_ret (rT rfl _ _ w.heap.size 95 _ (0,0) _ rfl (setRow_heap _ _ _ _ _ _ hN3) Tryz.underlying95 rfl (by kernel_rfl)) rfl ?_;refine ⟨rfl,?_⟩;have hb3:=hb1.trans (hb2a.mono hb1.size);exact hb3.trans ((fS _ w.heap.size _).below (B:=w.heap.size) hb3.size (fun k hk=>by omega))
theorem F9 {B:Nat} (A:Option Addr) (c:Nat) (b:List UInt8) (w:World) (hB:B<=w.heap.size) (hr:Reads w B 1 A b.length (bl b)) (hc:b.length<=c) (hRd:fJ b=0->pp (dG b) (oc b) (gM b)) :
 Calls Tryz.prog 36 #[.slice A b.length c] w fun e w'=>xo b w.heap.size e w w':=by
 by_cases he:fJ b≠0
 ·exact EB A c b w hB hr hc he
 have he:fJ b=0:=Decidable.not_not.1 he;obtain ⟨_,hl,hk1,hk5,hrl,hlsn⟩:=rG he;have hRd:=hRd he
 have hcs:eW b=true:=by
  unfold fJ at he;rw [if_neg (by omega)] at he;by_cases h:eW b=false
  ·rw [if_pos h] at he;cases he
  ·simpa using h
 obtain ⟨a,rfl,_⟩:=hr.2 (by omega)
 obtain ⟨w1,hw1⟩:∃ w1,w1=w.alloc (.cells eb 95):=⟨_,rfl⟩
 have hb1:Below w.heap.size w w1:=by rw [hw1];exact (bR _ w).alloc (nR _) _
 have hN1:aa w1 w.heap.size 95 eb:=by rw [hw1];exact aa.new _ _ _
 have hO:=Ex a c b w1 (nT hB hb1.size) (hr.below (hb1.mono hB)) hl (by omega) hcs ⟨hk1,hk5⟩
 have hgN:cT (dG b) (oc b) (gM b)=none->cJ b=.error 80:=fun h=>by
  unfold cJ;rw [if_neg (by rw [he];simp),h]
 have hgS:∀ n,cT (dG b) (oc b) (gM b)=some n->cJ b=if aD n=true then .ok n else .error 80:=fun n h=>by
  unfold cJ;rw [if_neg (by rw [he];simp),h]
 unfold xo;rw [hl];unfold pp at hRd
 obtain ⟨kk,HK⟩:∃ k,Hid (dG b=k):=⟨_,lH rfl⟩
 obtain ⟨ll,HLS⟩:∃ k,Hid (oc b=k):=⟨_,lH rfl⟩
 obtain ⟨bb,HBB⟩:∃ k,Hid (gM b=k):=⟨_,lH rfl⟩
 rw [HK.out,HLS.out,HBB.out] at hO hRd hgN hgS;rw [HBB.out] at hrl;have HRd:Hid (∀ (a:Addr) (W:World),Reads W W.heap.size 1 (some a) 243 (bl bb)->_):=lH fun a W h=>hRd W.heap.size a W (nR _) (by rw [hrl];exact h) hrl
 obtain ⟨rp,HRP⟩:∃ r,Hid (cT kk ll bb=r):=⟨_,lH rfl⟩
 rw [HRP.out] at HRd hgN hgS;unfold eb at hN1 hw1 ⊢;have HW1:=lH hw1;have HN1:=lH hN1;clear hw1 hN1 hr he hcs hRd hk1 hk5 hlsn hl
 cases rp with
 | none =>
  rw [hgN rfl];clear hgN hgS;simp only [Option.isSome_none] at HRd ⊢;go_enter Tryz.func36,Tryz.ntmps36
  go_wp2_with fail
  rw [<-HW1.out];go_at_call 55;refine hO.mono ?_;rintro e w2 ⟨a2,rfl,hr2,hb2⟩;have hb2a:Below w1.heap.size w1 (w2.alloc (.cells #[.int .i64 (kk:Nat),.int .u64 (ll:Nat),.slice (some a2) 243 243] 133)):=hb2.alloc hb2.size _;have hN2:=HN1.out.below hb2a HN1.out.lt;have hr3:=rM (hr2.below ((bR _ w2).alloc (nR _) (.cells #[.int .i64 (kk:Nat),.int .u64 (ll:Nat),.slice (some a2) 243 243] 133))) (show w2.heap.size<=(w2.alloc (.cells #[.int .i64 (kk:Nat),.int .u64 (ll:Nat),.slice (some a2) 243 243] 133)).heap.size by simp)
  go_wp2_with (first
   | (go_at_call 56;refine (HRd.out _ _ hr3).mono ?_;rintro e w4 ⟨x,rfl,_,hx,_,hb4⟩;have hb4a:=hb2a.trans (hb4.mono hb2a.size);have hb4b:Below w1.heap.size w1 (w4.alloc (.cells x.cells 95)):=hb4a.alloc hb4a.size _;have hN3:=HN1.out.below hb4b HN1.out.lt;unfold NX.cells at hN3 hb4b;unfold NX.val aJ)
   | (refine wpList_store_row rfl 95 (.tmp 2) (.tmp 29) rfl w.heap.size _ rfl rfl 95 _ hN3 (by kernel_rfl) rfl (by simp [Value.oneCell']) ?_))
  refine bodyPost_ret (rT rfl _ _ w.heap.size 95 _ (0,0) _ rfl (setRow_heap _ _ _ _ _ _ hN3) Tryz.underlying95 rfl (by kernel_rfl)) rfl ?_;refine ⟨rfl,?_⟩;have hb3:=hb1.trans (hb4b.mono hb1.size);exact hb3.trans ((fS _ w.heap.size _).below (B:=w.heap.size) hb3.size (fun k hk=>by omega))
 | some n =>
  rw [hgS n rfl];clear hgN hgS;simp only [Option.isSome_some] at HRd ⊢;have HIs:Hid (∀ (x:NX) (W:World),aP W W.heap.size x->_):=lH fun x W h=>po x W h (nR _)
  cases hn:aD n with
  | false =>
   simp only [Bool.false_eq_true,if_false];go_enter Tryz.func36,Tryz.ntmps36
   go_wp2_with fail
   rw [<-HW1.out];go_at_call 55;refine hO.mono ?_;rintro e w2 ⟨a2,rfl,hr2,hb2⟩;have hb2a:Below w1.heap.size w1 (w2.alloc (.cells #[.int .i64 (kk:Nat),.int .u64 (ll:Nat),.slice (some a2) 243 243] 133)):=hb2.alloc hb2.size _;have hN2:=HN1.out.below hb2a HN1.out.lt;have hr3:=rM (hr2.below ((bR _ w2).alloc (nR _) (.cells #[.int .i64 (kk:Nat),.int .u64 (ll:Nat),.slice (some a2) 243 243] 133))) (show w2.heap.size<=(w2.alloc (.cells #[.int .i64 (kk:Nat),.int .u64 (ll:Nat),.slice (some a2) 243 243] 133)).heap.size by simp)
   go_wp2_with (first
    | (go_at_call 56;refine (HRd.out _ _ hr3).mono ?_;rintro e w4 ⟨x,rfl,hxn,hx,hlo,hb4⟩;have hb4a:=hb2a.trans (hb4.mono hb2a.size);have hb4b:Below w1.heap.size w1 (w4.alloc (.cells x.cells 95)):=hb4a.alloc hb4a.size _;have hX4:=aa.new w4 95 x.cells;have hI:=HIs.out x (w4.alloc (.cells x.cells 95)) ((hx.below ((bR _ w4).alloc (nR _) (.cells x.cells 95))).mono (show w4.heap.size<=(w4.alloc (.cells x.cells 95)).heap.size by simp));rw [hxn n rfl,hn] at hI;unfold NX.val aJ at hI;unfold NX.cells at hX4 hb4b hI;unfold NX.val aJ)
    | (refine wpList_load_row rfl 95 (.tmp 6) rfl w4.heap.size rfl _ _ _ _ hX4 Tryz.underlying95 rfl (by kernel_rfl) ?_)
    | (go_at_call 57;refine hI.mono ?_;rintro e w6 ⟨rfl,hb6⟩;have hb6a:=hb4b.trans (hb6.mono hb4b.size);have hN3:=HN1.out.below hb6a HN1.out.lt)
    | (refine wpList_store_row rfl 95 (.tmp 2) (.tmp 29) rfl w.heap.size _ rfl rfl 95 _ hN3 (by kernel_rfl) rfl (by simp [Value.oneCell']) ?_))
   refine bodyPost_ret (rT rfl _ _ w.heap.size 95 _ (0,0) _ rfl (setRow_heap _ _ _ _ _ _ hN3) Tryz.underlying95 rfl (by kernel_rfl)) rfl ?_;refine ⟨rfl,?_⟩;have hb7:=hb1.trans (hb6a.mono hb1.size);exact hb7.trans ((fS _ w.heap.size _).below (B:=w.heap.size) hb7.size (fun k hk=>by omega))
  | true =>
   simp only [if_true];go_enter Tryz.func36,Tryz.ntmps36
   go_wp2_with fail
   rw [<-HW1.out];go_at_call 55;refine hO.mono ?_;rintro e w2 ⟨a2,rfl,hr2,hb2⟩;have hb2a:Below w1.heap.size w1 (w2.alloc (.cells #[.int .i64 (kk:Nat),.int .u64 (ll:Nat),.slice (some a2) 243 243] 133)):=hb2.alloc hb2.size _;have hN2:=HN1.out.below hb2a HN1.out.lt;have hr3:=rM (hr2.below ((bR _ w2).alloc (nR _) (.cells #[.int .i64 (kk:Nat),.int .u64 (ll:Nat),.slice (some a2) 243 243] 133))) (show w2.heap.size<=(w2.alloc (.cells #[.int .i64 (kk:Nat),.int .u64 (ll:Nat),.slice (some a2) 243 243] 133)).heap.size by simp)
   go_wp2_with (first
    | (go_at_call 56;refine (HRd.out _ _ hr3).mono ?_;rintro e w4 ⟨x,rfl,hxn,hx,hlo,hb4⟩;have hb4a:=hb2a.trans (hb4.mono hb2a.size);have hb4b:Below w1.heap.size w1 (w4.alloc (.cells x.cells 95)):=hb4a.alloc hb4a.size _;have hX4:=aa.new w4 95 x.cells;have hI:=HIs.out x (w4.alloc (.cells x.cells 95)) ((hx.below ((bR _ w4).alloc (nR _) (.cells x.cells 95))).mono (show w4.heap.size<=(w4.alloc (.cells x.cells 95)).heap.size by simp));rw [hxn n rfl,hn] at hI;unfold NX.val aJ at hI;unfold NX.cells at hX4 hb4b hI;unfold NX.val aJ)
    | (refine wpList_load_row rfl 95 (.tmp 6) rfl w4.heap.size rfl _ _ _ _ hX4 Tryz.underlying95 rfl (by kernel_rfl) ?_)
    | (go_at_call 57;refine hI.mono ?_;rintro e w6 ⟨rfl,hb6⟩;have hb6a:=hb4b.trans (hb6.mono hb4b.size);have hN3:=HN1.out.below hb6a HN1.out.lt;have hX6:=hX4.below hb6 hX4.lt)
    | (refine wpList_load_row rfl 95 (.tmp 6) rfl w4.heap.size rfl _ _ _ _ hX6 Tryz.underlying95 rfl (by kernel_rfl) ?_)
    | (refine wpList_store_row rfl 95 (.tmp 2) (.tmp 30) rfl w.heap.size _ rfl rfl 95 _ hN3 (by kernel_rfl) rfl (by simp [Value.oneCell']) ?_))
   refine bodyPost_ret (rT rfl _ _ w.heap.size 95 _ (0,0) _ rfl (setRow_heap _ _ _ _ _ _ hN3) Tryz.underlying95 rfl (by kernel_rfl)) rfl ?_;have hb7:=hb1.trans (hb6a.mono hb1.size);refine ⟨⟨x,hxn n rfl,rfl,?_,hlo.mono (nT hb1.size hb2a.size)⟩,hb7.trans ((fS _ w.heap.size _).below (B:=w.heap.size) hb7.size (fun k hk=>by omega))⟩;rw [size_setRow];have h46:Below w4.heap.size w4 w6:=((bR _ w4).alloc (nR _) _).trans (hb6.mono (by simp));have hs:w.heap.size+1<=w1.heap.size:=HN1.out.lt;exact ((hx.below h46).mono h46.size).fr (fS _ _ _) (nR _) (hlo.mono (nT hs hb2a.size)) (fun k hk=>by omega)
theorem s9 {α:Type} {c:Prop} [Decidable c] (x:α):(if c then some x else none).isSome=decide c:=by
 by_cases h:c
 ·rw [if_pos h,dT h];rfl
 ·rw [if_neg h,dF h];rfl
theorem EC (lsn:Nat) (b:List UInt8):pp 5 lsn b:=by
 intro B a w hB hr hl;refine (AC lsn a b w hB hr hl).mono ?_;rintro e w' ⟨rfl,hb⟩;have e1:cT 5 lsn b=if cR (ag 4 (aC (b.take 4)))=b then some ⟨5,lsn,[],aC (b.take 4),[],0,0,0,0⟩ else none:=rfl;refine ⟨⟨5,lsn,none,0,[],aC (b.take 4),none,0,[],0,0,0,0⟩,?_,?_,⟨⟨.inl rfl,fun y hy=>(by cases hy),fun y hy=>(by cases hy)⟩,Reads.none_,fun y hy=>(by cases hy),zL _,zL _⟩,⟨fun ad h=>(by cases h),fun ad h=>(by cases h),fun y hy=>(by cases hy),fun y hy=>(by cases hy)⟩,hb⟩
 ·rw [e1,s9];rfl
 ·intro n hn;rw [e1] at hn
  split at hn
  ·cases hn;rfl
  ·cases hn
theorem ED (lsn:Nat) (b:List UInt8):pp 4 lsn b:=by
 intro B a w hB hr hl;refine (AE lsn a b w hB hr hl).mono ?_;rintro e w' ⟨A,c,rfl,hlo,hrd,hb⟩;have e1:cT 4 lsn b=if cR (ag 4 (aC (b.take 4))++([UInt8.ofNat ((b.drop 5).take (min (5+(b.getD 4 0).toNat) b.length-5)).length]++(b.drop 5).take (min (5+(b.getD 4 0).toNat) b.length-5)))=b then some ⟨4,lsn,[],aC (b.take 4),(b.drop 5).take (min (5+(b.getD 4 0).toNat) b.length-5),0,0,0,0⟩ else none:=rfl;rw [hl] at e1;refine ⟨⟨4,lsn,none,0,[],aC (b.take 4),A,c,(b.drop 5).take (min (5+(b.getD 4 0).toNat) 243-5),0,0,0,0⟩,?_,?_,⟨⟨.inl rfl,fun y hy=>(by cases hy),fun y hy=>(by cases hy)⟩,hrd,fun y hy=>(by cases hy),zL _,?_⟩,⟨fun ad h=>(by cases h),hlo,fun y hy=>(by cases hy),fun y hy=>(by cases hy)⟩,hb⟩
 ·rw [e1,s9];rfl
 ·intro n hn;rw [e1] at hn
  split at hn
  ·cases hn;rfl
  ·cases hn
 ·show ((b.drop 5).take _).length<=_;rw [lK];omega
end
section
open Go.RowKit
structure KE where
 nm:Nat
 A:Option Addr
 cap:Nat
 b:List UInt8
 born:Nat
def KE.val (x:KE):Value:=.slice x.A x.b.length x.cap
def KE.ent (x:KE):MapEntry:={key:=.int .u32 (x.nm:Nat),val:=x.val,born:=x.born}
def look (id:Nat):List KE->Nat->Option (Nat × KE)
 | [],_=>none
 | x::l,i=>if x.nm=id then some (i,x) else look id l (i+1)
theorem rU (id:Nat):∀ (l:List KE) (i:Nat),Instr.findNow (.int .u32) (.int .u32 (id:Nat)) (l.map KE.ent) i=some ((look id l i).map fun r=>(r.1,r.2.val))
 | [],i=>rfl
 | x::l,i=>by
  simp only [List.map_cons,Instr.findNow,KE.ent,Instr.sameNow,look];by_cases h:x.nm=id
  ·subst h;simp
  ·have h':((id:Int)==(x.nm:Int))=false:=by simp;omega
   rw [if_neg h];simp only [h',if_true];exact rU id l (i+1)
theorem rV (id:Nat):∀ (l:List KE) (i j:Nat) (x:KE),look id l i=some (j,x)->i<=j/\l[j-i]?=some x/\x.nm=id
 | [],i,j,x,h=>by cases h
 | y::l,i,j,x,h=>by
  unfold look at h;by_cases e:y.nm=id
  ·rw [if_pos e] at h;cases h;exact ⟨nR _,by simp,e⟩
  ·rw [if_neg e] at h;obtain ⟨h1,h2,h3⟩:=rV id l (i+1) j x h;refine ⟨by omega,?_,h3⟩;rw [show j-i=(j-(i+1))+1 by omega,List.getElem?_cons_succ];exact h2
theorem Ga (w:World):(zeroValue 23).run Tryz.prog w=.ok (.slice none 0 0) w:=by kernel_rfl
theorem Cz {P:Program} {w:World} {r:Nat} {es:Array MapEntry} {clock:Nat} (h:w.heap[r]?=some (.map es clock)):(getObj r).run P w=.ok (.map es clock) w:=by
 simp [getObj,Sem.run,h]
theorem AF (b:Bool) (id:Nat) (w:World):(Instr.checkKey b 10000 77 (.int .u32 (id:Nat))).run Tryz.prog w=.ok () w:=by
 have:∀ q,(Instr.checkKey b (q+1) 77 (.int .u32 (id:Nat))).run Tryz.prog w=.ok () w:=fun q=>by
  simp [Instr.checkKey,run_underlying Tryz.underlying77]
 exact this 9999
section
variable {w:World} {ops:Array Oper} {rest:List Oper} {o:Oper} {a:Act} {Q:Exit->Act->World->Prop} {M:Nat} {id:Nat} {l:List KE} {clock:Nat}
theorem vi (hM:w.heap[M]?=some (.map (l.map KE.ent).toArray clock)) (ok:Bool) :
 (Instr.lookup 98 (.map (some M)) (.int .u32 (id:Nat)) ok).run Tryz.prog w=.ok (match look id l 0 with
  | some r=>if ok then .tuple #[r.2.val,.bool true] else r.2.val
  | none=>if ok then .tuple #[.slice none 0 0,.bool false] else .slice none 0 0) w:=by
 have hf:=rU id l 0
 cases hl:look id l 0 with
 | none =>
  rw [hl] at hf;simp [Instr.lookup,run_underlying Tryz.underlying98,Cz hM,AF,Instr.findKey,run_underlying Tryz.underlying77,hf,Ga,Result.andThen]
 | some r =>
  rw [hl] at hf;simp [Instr.lookup,run_underlying Tryz.underlying98,Cz hM,AF,Instr.findKey,run_underlying Tryz.underlying77,hf,Result.andThen]
theorem gT (hg:o.guard=none) (m x:Operand) (hop:o.op=Op.lookup 98 m x true) (hm:a.eval m=.map (some M)) (hx:a.eval x=.int .u32 (id:Nat))
 (hM:w.heap[M]?=some (.map (l.map KE.ent).toArray clock)) {j:Nat} {y:KE} (hl:look id l 0=some (j,y))
 (hK:wpList Tryz.prog ops Q rest (a.put o.dst (.tuple #[y.val,.bool true])) w):wpList Tryz.prog ops Q (o::rest) a w:=by
 refine wpList_plain hg fun K' hK'=>?_;have hrun:=vi (id:=id) hM true;rw [hl] at hrun;unfold Oper.wp;simp [execOp,hop,hm,hx,hrun,Result.andThen];exact hK' _ _ hK
theorem bq (hg:o.guard=none) (m x:Operand) (hop:o.op=Op.lookup 98 m x true) (hm:a.eval m=.map (some M)) (hx:a.eval x=.int .u32 (id:Nat))
 (hM:w.heap[M]?=some (.map (l.map KE.ent).toArray clock)) (hl:look id l 0=none)
 (hK:wpList Tryz.prog ops Q rest (a.put o.dst (.tuple #[.slice none 0 0,.bool false])) w):wpList Tryz.prog ops Q (o::rest) a w:=by
 refine wpList_plain hg fun K' hK'=>?_;have hrun:=vi (id:=id) hM true;rw [hl] at hrun;unfold Oper.wp;simp [execOp,hop,hm,hx,hrun,Result.andThen];exact hK' _ _ hK
end
end
section
open Go.RowKit
def FG (X:Nat->Prop) (w:World):Nat->Prop:=fun k=>X k\/w.heap.size<=k
def IR (src:Value) (M:Nat) (t:PT):Array Value:=#[src,.int .u64 (t.lsn:Nat),.int .u32 (t.root:Nat),.int .u32 (t.pages:Nat),.int .u32 (t.free:Nat),.int .u64 (t.entries:Nat),.map (some M),.bool t.changed]
structure fO (X:Nat->Prop) (w:World) (A:Option Addr) (c:Nat) (b:List UInt8):Prop where
 rd:Reads w w.heap.size 1 A b.length (bl b)
 cap:b.length<=c
 long:b.length<=3000000
 inX:b.length≠0->∀ ad,A=some ad->X ad.block/\ad.block<w.heap.size
def co (X:Nat->Prop) (w w':World):Prop:=w.heap.size<=w'.heap.size/\∀ k,X k->k<w.heap.size->w'.heap[k]?=w.heap[k]?
theorem co.of_below {X:Nat->Prop} {w w':World} (h:Below w.heap.size w w'):co X w w':=⟨h.size,fun k _ hk=>h.block k hk⟩
theorem pq {X:Nat->Prop} {w w':World} {A:Option Addr} {n size:Nat} {xs:List Value} (h:Reads w w.heap.size size A n xs) (hk:co X w w') (hX:n≠0->∀ ad,A=some ad->X ad.block):Reads w' w'.heap.size size A n xs :=
 ⟨h.1,fun h0=>by
  obtain ⟨ad,e,hb,hc⟩:=h.2 h0;refine ⟨ad,e,lT hb hk.1,fun j u hu=>?_⟩;rw [<-hc j u hu]
  exact World.cell?_of_block (w:=w) (by rw [bV];exact hk.2 _ (hX (by omega) ad e) hb)⟩
theorem fO.keep {X:Nat->Prop} {w w':World} {A:Option Addr} {c:Nat} {b:List UInt8} (h:fO X w A c b) (hk:co X w w'):fO X w' A c b:=⟨pq h.rd hk (fun h0 ad e=>(h.inX h0 ad e).1),h.cap,h.long,fun h0 ad e=>⟨(h.inX h0 ad e).1,lT (h.inX h0 ad e).2 hk.1⟩⟩
theorem fO.mono {X Y:Nat->Prop} {w:World} {A:Option Addr} {c:Nat} {b:List UInt8} (h:fO X w A c b) (hX:∀ k,X k->Y k):fO Y w A c b:=⟨h.rd,h.cap,h.long,fun h0 ad e=>⟨hX _ (h.inX h0 ad e).1,(h.inX h0 ad e).2⟩⟩
def fP (X:Nat->Prop) (w:World) (v:Value) (src:List (List UInt8)):Prop:=∃ A c,∃ ps:List Pt,v=.iface 57 (.agg #[.slice A ps.length c])/\src=ps.map Pt.b/\Reads w w.heap.size 1 A ps.length (ps.map Pt.val)/\ps.length<=3000000/\(ps.length≠0->∀ ad,A=some ad->X ad.block/\ad.block<w.heap.size)/\∀ p∈ps,fO X w p.A p.c p.b
theorem fP.keep {X:Nat->Prop} {w w':World} {v:Value} {src:List (List UInt8)} (h:fP X w v src) (hk:co X w w'):fP X w' v src:=by
 obtain ⟨A,c,ps,e1,e2,h1,h0,h2,h3⟩:=h;exact ⟨A,c,ps,e1,e2,pq h1 hk (fun hn ad e=>(h2 hn ad e).1),h0,fun hn ad e=>⟨(h2 hn ad e).1,lT (h2 hn ad e).2 hk.1⟩,fun p hp=>(h3 p hp).keep hk⟩
theorem fP.mono {X Y:Nat->Prop} {w:World} {v:Value} {src:List (List UInt8)} (h:fP X w v src) (hX:∀ k,X k->Y k):fP Y w v src:=by
 obtain ⟨A,c,ps,e1,e2,h1,h0,h2,h3⟩:=h;exact ⟨A,c,ps,e1,e2,h1,h0,fun hn ad e=>⟨hX _ (h2 hn ad e).1,(h2 hn ad e).2⟩,fun p hp=>(h3 p hp).mono hX⟩
structure G9 (X:Nat->Prop) (w:World) (T M:Nat) (O:List KE) (ck:Nat) (src:Value) (t:PT):Prop where
 ne:T≠M
 xT:X T
 xM:X M
 blk:aa w T 100 (IR src M t)
 map:w.heap[M]?=some (.map (O.map KE.ent).toArray ck)
 clk:(∀ e∈O,e.born<ck)/\(O.map KE.born).Nodup
 over:t.over=O.map fun e=>(e.nm,e.b)
 page:∀ e∈O,fO (fun k=>X k/\k≠T/\k≠M) w e.A e.cap e.b/\e.b.length=256
 src:fP (fun k=>X k/\k≠T/\k≠M) w src t.src
def TX (X:Nat->Prop) (w:World) (T M:Nat) (t:PT):Prop:=∃ O ck src,G9 X w T M O ck src t
theorem G9.lt {X:Nat->Prop} {w:World} {T M:Nat} {O:List KE} {ck:Nat} {src:Value} {t:PT} (h:G9 X w T M O ck src t):T<w.heap.size/\M<w.heap.size:=⟨h.blk.lt,(aS.1 h.map).1⟩
theorem G9.keep {X:Nat->Prop} {w w':World} {T M:Nat} {O:List KE} {ck:Nat} {src:Value} {t:PT} (h:G9 X w T M O ck src t) (hk:co X w w'):G9 X w' T M O ck src t :=
 have hk2:co (fun k=>X k/\k≠T/\k≠M) w w':=⟨hk.1,fun k hx hl=>hk.2 k hx.1 hl⟩
 ⟨h.ne,h.xT,h.xM,(hk.2 T h.xT h.lt.1).trans h.blk,(hk.2 M h.xM h.lt.2).trans h.map,h.clk,h.over,fun e he=>⟨(h.page e he).1.keep hk2,(h.page e he).2⟩,h.src.keep hk2⟩
theorem TX.keep {X:Nat->Prop} {w w':World} {T M:Nat} {t:PT} (h:TX X w T M t) (hk:co X w w'):TX X w' T M t:=by
 obtain ⟨O,ck,src,h⟩:=h;exact ⟨O,ck,src,h.keep hk⟩
theorem fO.cut {X:Nat->Prop} {w:World} {A:Option Addr} {c:Nat} {b:List UInt8} (h:fO X w A c b):fO (fun k=>X k/\k<w.heap.size) w A c b:=⟨h.rd,h.cap,h.long,fun h0 ad e=>⟨h.inX h0 ad e,(h.inX h0 ad e).2⟩⟩
theorem TX.cut {X:Nat->Prop} {w:World} {T M:Nat} {t:PT} (h:TX X w T M t):TX (fun k=>X k/\k<w.heap.size) w T M t:=by
 obtain ⟨O,ck,src,h⟩:=h;obtain ⟨A,c,ps,e1,e2,h1,h0,h2,h3⟩:=h.src
 exact ⟨O,ck,src,h.ne,⟨h.xT,h.lt.1⟩,⟨h.xM,h.lt.2⟩,h.blk,h.map,h.clk,h.over,fun e he=>⟨(h.page e he).1.cut.mono fun k hk=>⟨⟨hk.1.1,hk.2⟩,hk.1.2⟩,(h.page e he).2⟩,
  A,c,ps,e1,e2,h1,h0,fun hn ad e=>⟨⟨⟨(h2 hn ad e).1.1,(h2 hn ad e).2⟩,(h2 hn ad e).1.2⟩,(h2 hn ad e).2⟩,fun p hp=>(h3 p hp).cut.mono fun k hk=>⟨⟨hk.1.1,hk.2⟩,hk.1.2⟩⟩
theorem jH (n:Nat):∀ (O:List KE) (i:Nat),lookO n (O.map fun e=>(e.nm,e.b))=(look n O i).map fun r=>r.2.b
 | [],_=>rfl
 | e::O,i=>by
  unfold look;simp only [List.map_cons,lookO];by_cases h:e.nm=n
  ·rw [if_pos h,if_pos h];rfl
  ·rw [if_neg h,if_neg h,jH n O (i+1)]
theorem aT {X:Nat->Prop} {w:World} {T o:Nat} {u:Value} (hX:X T):Fr X w (w.setCell ⟨T,o,none⟩ u):=⟨rfl,rfl,rfl,by simp [World.setCell],fun k _ hk=>Below.heap_setCell w ⟨T,o,none⟩ u k (fun e=>hk (by rw [e];exact hX))⟩
def cm (B:Nat) (w:World) (op nm:ByteArray) (k:Int) (v:Value):Prop :=
 (k=0/\v=.nilIface)\/(k≠0/\∃ r,v=.iface 82 (.pointer (some ⟨r,0,none⟩))/\B<=r/\w.heap[r]?=some (.cells #[.string op,.string nm,.iface 66 (.int .i64 k)] 86 (0,0)))
theorem cm.lo {B B':Nat} {w:World} {op nm:ByteArray} {k:Int} {v:Value} (h:cm B w op nm k v) (hb:B'<=B):cm B' w op nm k v :=
 h.imp id fun ⟨h1,r,e,hB,hr⟩=>⟨h1,r,e,nT hb hB,hr⟩
theorem jI (op nm:ByteArray) (k:Int) (w:World):Calls Tryz.prog 35 #[.string op,.string nm,.int .i64 k] w fun e w'=>∃ v,e=.returned v/\cm w.heap.size w' op nm k v/\Below w.heap.size w w':=by
 by_cases h:k=0
 ·subst h;go_enter Tryz.func35,Tryz.ntmps35;go_wp2;go_ret;exact ⟨_,rfl,.inl ⟨rfl,rfl⟩,bR _ _⟩
 ·have k0:(k==0)=false:=by simpa using h
  go_enter Tryz.func35,Tryz.ntmps35;go_wp2;go_ret;exact ⟨_,rfl,.inr ⟨h,w.heap.size,rfl,nR _,heap_alloc_new _ _⟩,(bR _ _).alloc (nR _) _⟩
end
end Go.Proofs.YtgohffhoapkeaaaGreatDoor
namespace Go.Proofs.YtgohffhoapkeaaaGreatDoor
open Go.RowKit
theorem xq {X:Nat->Prop} {w:World} {T M:Nat} {t:PT} (h:TX X w T M t) (n:Nat) (b:List UInt8) (hn:n<t.pages) (hl:lookO n t.over=some b) :
 Calls Tryz.prog 140 #[.pointer (some ⟨T,0,none⟩),.int .u32 (n:Nat)] w fun e w'=>b.length=256/\∃ A c,e=.returned (.tuple #[.slice A 256 c,.int .i64 0])/\w'.ownsRow w.heap.size 5 1 (.slice A 256 c) 256 (bl b)/\Below w.heap.size w w':=by
 obtain ⟨O,ck,src,h⟩:=h;have f3:w.cell? ⟨T,3,none⟩=some (.int .u32 (t.pages:Nat)):=h.blk.cell 3;have f6:w.cell? ⟨T,6,none⟩=some (.map (some M)):=h.blk.cell 6;rw [h.over,jH n O 0] at hl
 cases hk:look n O 0 with
 | none=>rw [hk] at hl;cases hl
 | some r =>
  obtain ⟨j,y⟩:=r;rw [hk] at hl;simp only [Option.map_some,Option.some.injEq] at hl;subst hl;obtain ⟨_,hj,hnm⟩:=rV _ _ _ _ _ hk;obtain ⟨hby,h256⟩:=h.page y (mG hj);obtain ⟨a,ha,_⟩:=hby.rd.2 (by omega);have hrd:=hby.rd;rw [ha,h256] at hrd;have hC:=eI a y.cap (bl y.b) (gA _) w hrd (nR _) (by omega);have d1:decide ((t.pages:Int)<=(n:Int))=false:=dF (by omega);have d2:decide (t.pages<=n)=false:=dF (by omega);have HH:=lH (aI h hk)
  have hyv:y.val=.slice (some a) 256 y.cap:=by unfold KE.val;rw [ha,h256]
  have H256:=lH h256;clear h hk hrd hby hj hnm h256 ha;go_enter Tryz.func140,Tryz.ntmps140
  go_wp2_with (first
   | (refine gT rfl (.tmp 15) (.tmp 16) rfl rfl rfl HH.out.1.map HH.out.2 ?_;rw [hyv])
   | (go_at_call 79;refine hC.mono ?_;rintro e w3 ⟨A',c',rfl,ho3,hb3⟩))
  go_ret2;exact ⟨H256.out,A',c',rfl,ho3,hb3⟩
end Go.Proofs.YtgohffhoapkeaaaGreatDoor
namespace Go.Proofs
open Go.Shelf
def aH (w:World):Prop:=(match w.heap[(2:Nat)]? with
 | some (.cells cs _ _)=>some cs
 | _=>none)=some (Lib.pow10Tab.map fun z=>Value.int .u64 z).toArray
theorem aH.of {w w1:World} (h:aH w) (hk:2<w.heap.size->w1.heap[(2:Nat)]?=w.heap[(2:Nat)]?):aH w1:=by
 unfold aH at h ⊢;by_cases hl:2<w.heap.size
 ·rw [hk hl];exact h
 ·rw [Array.getElem?_eq_none (by omega)] at h;cases h
def Tryz.lays283_ren:Go.Shelf.Ren:=⟨fun | 283=>174 | n=>n,fun | 3=>3 | 9=>9 | 4=>4 | n=>n,fun | n=>n⟩
theorem Tryz.lays283:Go.Proofs.Lays.n283 Tryz.prog Tryz.lays283_ren:={
 mixed:=by kernel_rfl
 f283:=Tryz.func174.trans (congrArg some (by kernel_rfl))
 t3:=Tryz.underlying3
 a3:=Tryz.isAgg3
 z3:=Tryz.sizeOf3
 v3:=Tryz.zeroValue3
 t4:=Tryz.underlying4
 a4:=Tryz.isAgg4
 z4:=Tryz.sizeOf4
 v4:=Tryz.zeroValue4
 t9:=Tryz.underlying9
 a9:=Tryz.isAgg9
 z9:=Tryz.sizeOf9
 v9:=Tryz.zeroValue9}
open Go.Lib in
theorem Tryz.internal_strconv_small (i:Nat) (h:i<100) (w:World) :
 Calls Tryz.prog 174 #[.int .i64 i] w fun e w'=>e=.returned (.string ⟨(Lib.decDigits i).toArray⟩)/\w'=w:=Any.internal_strconv_small Tryz.lays283 i h w
def Tryz.laysM284_ren:Go.Shelf.Ren:=⟨fun | 284=>175 | 129=>182 | 317=>181 | 318=>183 | n=>n,fun | 53=>58 | 3=>3 | 212=>293 | 0=>0 | 4=>4 | 46=>211 | 5=>5 | 9=>9 | n=>n,fun | 17=>2 | n=>n⟩
theorem Tryz.laysM284:Go.Proofs.LaysM.n284 Tryz.prog Tryz.laysM284_ren:={
 mixed:=by kernel_rfl
 f129:=Tryz.func182.trans (congrArg some (by kernel_rfl))
 f284:=Tryz.func175.trans (congrArg some (by kernel_rfl))
 f317:=Tryz.func181.trans (congrArg some (by kernel_rfl))
 f318:=Tryz.func183.trans (congrArg some (by kernel_rfl))
 t0:=Tryz.underlying0
 a0:=Tryz.isAgg0
 z0:=Tryz.sizeOf0
 v0:=Tryz.zeroValue0
 t3:=Tryz.underlying3
 a3:=Tryz.isAgg3
 z3:=Tryz.sizeOf3
 v3:=Tryz.zeroValue3
 t4:=Tryz.underlying4
 a4:=Tryz.isAgg4
 z4:=Tryz.sizeOf4
 v4:=Tryz.zeroValue4
 t5:=Tryz.underlying5
 a5:=Tryz.isAgg5
 z5:=Tryz.sizeOf5
 v5:=Tryz.zeroValue5
 t9:=Tryz.underlying9
 a9:=Tryz.isAgg9
 z9:=Tryz.sizeOf9
 v9:=Tryz.zeroValue9
 t46:=Tryz.underlying211
 a46:=Tryz.isAgg211
 z46:=Tryz.sizeOf211
 v46:=Tryz.zeroValue211
 t53:=Tryz.underlying58
 a53:=Tryz.isAgg58
 z53:=Tryz.sizeOf58
 v53:=Tryz.zeroValue58
 t212:=Tryz.underlying293
 a212:=Tryz.isAgg293
 z212:=Tryz.sizeOf293
 v212:=Tryz.zeroValue293
 g17:=by kernel_rfl
 i0:=by kernel_rfl
 i3:=by kernel_rfl
 i4:=by kernel_rfl
 i5:=by kernel_rfl
 i9:=by kernel_rfl
 i46:=by kernel_rfl
 i53:=by kernel_rfl
 i212:=by kernel_rfl
 m17:=by kernel_rfl}
open Go.Lib in
theorem Tryz.internal_strconv_numDigits (u:Nat) (h1:1<=u) (h2:u<18446744073709551616) (w:World) (htab:aH w) :
 Calls Tryz.prog 175 #[.int .u64 u] w fun e w'=>e=.returned (.int .i64 (Lib.nDigits u))/\w'=w:=Any.internal_strconv_numDigits Tryz.laysM284 u h1 h2 w (by unfold Lib.TabIs World.var?;generalize hq:Program.globalNamed Tryz.prog _=q;have e:q=some 2:=by {rw [<-hq];kernel_rfl};rw [e];exact htab)
def Tryz.lays285_ren:Go.Shelf.Ren:=⟨fun | 285=>176 | n=>n,fun | 37=>23 | 53=>58 | 3=>3 | 4=>4 | 51=>77 | 9=>9 | 5=>5 | 0=>0 | n=>n,fun | n=>n⟩
theorem Tryz.lays285:Go.Proofs.Lays.n285 Tryz.prog Tryz.lays285_ren:={
 mixed:=by kernel_rfl
 f285:=Tryz.func176.trans (congrArg some (by kernel_rfl))
 t0:=Tryz.underlying0
 a0:=Tryz.isAgg0
 z0:=Tryz.sizeOf0
 v0:=Tryz.zeroValue0
 t3:=Tryz.underlying3
 a3:=Tryz.isAgg3
 z3:=Tryz.sizeOf3
 v3:=Tryz.zeroValue3
 t4:=Tryz.underlying4
 a4:=Tryz.isAgg4
 z4:=Tryz.sizeOf4
 v4:=Tryz.zeroValue4
 t5:=Tryz.underlying5
 a5:=Tryz.isAgg5
 z5:=Tryz.sizeOf5
 v5:=Tryz.zeroValue5
 t9:=Tryz.underlying9
 a9:=Tryz.isAgg9
 z9:=Tryz.sizeOf9
 v9:=Tryz.zeroValue9
 t37:=Tryz.underlying23
 a37:=Tryz.isAgg23
 z37:=Tryz.sizeOf23
 v37:=Tryz.zeroValue23
 t51:=Tryz.underlying77
 a51:=Tryz.isAgg77
 z51:=Tryz.sizeOf77
 v51:=Tryz.zeroValue77
 t53:=Tryz.underlying58
 a53:=Tryz.isAgg58
 z53:=Tryz.sizeOf58
 v53:=Tryz.zeroValue58}
open Go.RowKit Go.Sort Go.Lib in
theorem Tryz.internal_strconv_formatBase10 (blk off cap:Nat) (u:Nat) (d:Array UInt8) (w:World) (hH:Holds (fun (b:UInt8)=>Value.int .u8 (b.toNat:Int)) w blk off d) (hu:u<10 ^ d.size) (hu64:u<18446744073709551616) (hsz:d.size<4611686018427387904) :
 Calls Tryz.prog 176 #[.slice (some ⟨blk,off,none⟩) d.size cap,.int .u64 u] w fun e w' =>
  e=.returned (.tuple #[])/\∃ (n v':Nat) (dk:Array UInt8),w'=(putRow (fun (b:UInt8)=>Value.int .u8 (b.toNat:Int)) w blk off dk).drewN n/\FmtInv d.size u 0 v' dk:=Any.internal_strconv_formatBase10 Tryz.lays285 blk off cap u d w hH hu hu64 hsz
end Go.Proofs
namespace Go.Proofs.YtgohffhoapkeaaaGreatDoor
section
open Go.Shelf Go.RowKit Go.Sort Go.Lib
theorem holds_zero0 (w:World) (T:TypeId) (nd:Nat) (hs:nd<=24):Holds (fun (b:UInt8)=>Value.int .u8 (b.toNat:Int)) (w.alloc (.cells zeros24 T)) w.heap.size 0 (Array.replicate nd (0:UInt8)):=fun j hj=>by
 have hj':j<nd:=by simpa using hj
 refine ⟨?_,World.frozen?_alloc_new _ _ _ _⟩;rw [World.cell?_alloc_new,zeros24_at _ (by omega),getElem!_pos _ j hj];simp
theorem CB (w:World) (o:Obj) (dk:Array UInt8) (k:Nat):∃ os,(putRow (fun (b:UInt8)=>Value.int .u8 (b.toNat:Int)) (w.alloc o) w.heap.size 0 dk).drewN k=grow (w.drewN k) os:=by
 rw [alloc_eq_grow];obtain ⟨os',_,e⟩:=putRow_grow_new (fun (b:UInt8)=>Value.int .u8 (b.toNat:Int)) w #[o] w.heap.size 0 dk (nR _);exact ⟨os',by rw [e];rfl⟩
theorem xu (u:Nat) (hu64:u<18446744073709551616) (w:World) (htab:aH w) :
 Calls Tryz.prog 165 #[.int .u64 u,.int .i64 10] w fun e w'=>e=.returned (.string ⟨(Lib.decDigits u).toArray⟩)/\Below w.heap.size w w':=by
 have e192:∀ args w,(callFunc 174 args).run Tryz.prog w=.ok (.enter 174 args) w:=enters_of Tryz.func174 (by kernel_rfl) rfl;have e193:∀ args w,(callFunc 175 args).run Tryz.prog w=.ok (.enter 175 args) w:=enters_of Tryz.func175 (by kernel_rfl) rfl;have e194:∀ args w,(callFunc 176 args).run Tryz.prog w=.ok (.enter 176 args) w:=enters_of Tryz.func176 (by kernel_rfl) rfl;by_cases hs:u<100
 ·go_enter Tryz.func165,Tryz.ntmps165
  go_wp2_with (go_at_call 174;refine (Tryz.internal_strconv_small u hs _).mono ?_;rintro e w' ⟨rfl,rfl⟩)
  go_ret;exact ⟨rfl,bR _ _⟩
 ·have hu1:1<=u:=by omega
  have hnd20:Lib.nDigits u<=20:=by have:=Lib.numDigits_eq u hu1 hu64;split at this <;> omega
  have hb3:Lib.nDigits u<=23:=by omega
  have hal:Tryz.prog.arrayLen 284=24:=by simp [Program.arrayLen,Tryz.underlying284]
  have hsl1:∀ W,(Instr.sliceAt 284 (.pointer (some ⟨w.heap.size,0,none⟩)) none (some (.int .i64 (Lib.nDigits u:Int))) none).run Tryz.prog W=.ok (.slice (some ⟨w.heap.size,0,none⟩) (Lib.nDigits u) 24) W:=fun W=>by
   rw [run_sliceAt_array_h W 284 ⟨w.heap.size,0,none⟩ (by simp [Program.arrayLen,Program.elem,Tryz.underlying284]) .i64 (Lib.nDigits u:Int) (by omega) (by rw [hal];omega)];go_simp
  have hH0:=holds_zero0 w 284 (Lib.nDigits u) (by omega);have hfmt:=Tryz.internal_strconv_formatBase10 w.heap.size 0 24 u (Array.replicate (Lib.nDigits u) 0) (w.alloc (.cells Lib.zeros24 284)) hH0 (by rw [Array.size_replicate];exact Lib.lt_pow_nDigits u) hu64 (by rw [Array.size_replicate];omega);rw [Array.size_replicate] at hfmt;have HH0:=lH hH0;clear hH0 hal;go_enter Tryz.func165,Tryz.ntmps165
  go_wp2_with (first
   | (go_at_call 175;refine (Tryz.internal_strconv_numDigits u hu1 hu64 _ (htab.of fun hl=>Below.heap_alloc _ _ _ hl)).mono ?_;rintro e w' ⟨rfl,rfl⟩))
  go_at_call 176
  refine hfmt.mono ?_;rintro e w' ⟨rfl,k,v',dk,rfl,hF⟩
  have hcv:(convert 23 9 (.slice (some ⟨w.heap.size,0,none⟩) (Lib.nDigits u) 24)).run Tryz.prog ((putRow (fun (b:UInt8)=>Value.int .u8 (b.toNat:Int)) (w.alloc (.cells Lib.zeros24 284)) w.heap.size 0 dk).drewN k)=.ok (.string ⟨(Lib.decDigits u).toArray⟩) ((putRow (fun (b:UInt8)=>Value.int .u8 (b.toNat:Int)) (w.alloc (.cells Lib.zeros24 284)) w.heap.size 0 dk).drewN k):=by
   have h:=run_convert_bytes_back (P:=Tryz.prog) ((putRow (fun (b:UInt8)=>Value.int .u8 (b.toNat:Int)) (w.alloc (.cells Lib.zeros24 284)) w.heap.size 0 dk).drewN k) 23 9 5 ⟨w.heap.size,0,none⟩ 24 (Lib.decDigits u) Tryz.underlying23 Tryz.underlying5 Tryz.underlying9 (fun j hj=>by
    rw [Lib.row_is_numeral hF j hj,Lib.add_plain,World.cell?_drewN]
    exact cell?_putRow (fun (b:UInt8)=>Value.int .u8 (b.toNat:Int)) _ w.heap.size 0 _ dk HH0.out (by rw [hF.size,Array.size_replicate]) j (by rw [hF.size];rw [Lib.decDigits_length] at hj;exact hj))
   rw [Lib.decDigits_length] at h;exact h
  go_wp2;go_ret;obtain ⟨os,eo⟩:=CB w (.cells Lib.zeros24 284) dk k;refine ⟨rfl,?_⟩;rw [eo];exact below_grow _ w (nR _) k os
theorem EE (u:Nat) (hu64:u<18446744073709551616) (w:World) (htab:aH w) :
 Calls Tryz.prog 141 #[.int .u64 u,.int .i64 10] w fun e w'=>e=.returned (.string ⟨(Lib.decDigits u).toArray⟩)/\Below w.heap.size w w':=by
 have e153:∀ args w,(callFunc 165 args).run Tryz.prog w=.ok (.enter 165 args) w:=enters_of Tryz.func165 (by kernel_rfl) rfl;go_enter Tryz.func141,Tryz.ntmps141
 go_wp2_with (go_at_call 165;refine (xu u hu64 _ htab).mono ?_;rintro e w' ⟨rfl,hb⟩)
 go_ret;exact ⟨rfl,hb⟩
end
section
open Go.RowKit
theorem pr (n:Nat) (hn:n<4294967296) (w:World) (htab:aH w):Calls Tryz.prog 105 #[.int .u32 (n:Nat)] w fun e w'=>e=.returned (.string ⟨(Lib.decDigits n).toArray⟩)/\Below w.heap.size w w':=by
 have hwu:IntKind.u64.wrap (n:Int)=(n:Int):=by rw [IntKind.wrap_u64];omega
 have hF:=EE n (by omega) w htab;clear htab;go_enter Tryz.func105,Tryz.ntmps105
 go_wp2_with (go_at_call 141;refine hF.mono ?_;rintro e w2 ⟨rfl,hb⟩)
 go_ret;exact ⟨rfl,hb⟩
theorem dQ {W:World} (h:aH W):2<W.heap.size:=by
 unfold aH at h
 rcases Nat.lt_or_ge 2 W.heap.size with h1 | h1
 ·exact h1
 ·rw [Array.getElem?_eq_none h1] at h;cases h
theorem ai {w w1:World} (h:ay w) (hb:Below w.heap.size w w1):ay w1:=(hb.cell (World.block_lt_of_cell? w _ h)).trans h
theorem cm.e {B:Nat} {w:World} {op nm:ByteArray} {k:Int} {v:Value} (h:cm B w op nm k v):dX B w k v :=
 h.imp id fun ⟨h1,r,e,hB,hr⟩=>.inr ⟨h1,r,op,nm,e,hB,hr⟩
theorem Gb (op:ByteArray) {w:World} {B:Nat} {k:Int} {v:Value} (hv:dX B w k v) (hg:ay w):Calls Tryz.prog 42 #[.string op,v] w fun e w'=>∃ v',e=.returned v'/\cm w.heap.size w' op ⟨#[]⟩ k v'/\Below w.heap.size w w':=by
 by_cases hk:k=0
 ·obtain rfl:v=.nilIface:=by
   rcases hv with ⟨_,h⟩ | ⟨h,_⟩ | ⟨h,_⟩
   ·exact h
   ·exact absurd hk h
   ·exact absurd hk h
  go_enter Tryz.func42,Tryz.ntmps42;go_wp2;go_ret;exact ⟨_,rfl,.inl ⟨hk,rfl⟩,bR _ _⟩
 ·obtain ⟨w1,hw1⟩:∃ w1,w1=w.alloc (.cells #[.int .i64 0] 66):=⟨_,rfl⟩
  have hb1:Below w.heap.size w w1:=by rw [hw1];exact (bR _ w).alloc (nR _) _
  have hB1:aa w1 w.heap.size 66 #[.int .i64 0]:=by rw [hw1];exact aa.new _ _ _
  have hA:=wX (hv.keep fun r _ hl=>hb1.block r hl) hk hB1 ((hb1.cell (World.block_lt_of_cell? w _ hg)).trans hg)
  obtain ⟨tv,pv,rfl⟩:∃ tv pv,v=.iface tv pv:=by
   rcases hv with ⟨h0,_⟩ | ⟨_,rfl⟩ | ⟨_,r,op,nm,rfl,_,hr⟩
   ·exact absurd h0 hk
   ·exact ⟨_,_,rfl⟩
   ·exact ⟨_,_,rfl⟩
  have HW1:=lH hw1;clear hw1 hB1 hv;go_enter Tryz.func42,Tryz.ntmps42
  go_wp2_with (rw [<-HW1.out];go_at_call 33;refine hA.mono ?_;rintro e w2 ⟨rfl,hB2,hf2⟩;have hc2:=hB2.cell 0)
  go_ret;have hb2:Below w.heap.size w w2:=hb1.trans (hf2.below (B:=w.heap.size) hb1.size (fun k hk=>by have hk:k=w.heap.size:=hk;omega));exact ⟨_,rfl,.inr ⟨hk,_,rfl,hb2.size,heap_alloc_new _ _⟩,hb2.alloc hb2.size _⟩
theorem xw (op:ByteArray) {w:World} {B:Nat} {k:Int} {v:Value} (hv:dX B w k v) (hg:ay w):Calls Tryz.prog 108 #[.string op,v] w fun e w'=>∃ v',e=.returned v'/\cm w.heap.size w' op ⟨#[]⟩ k v'/\Below w.heap.size w w':=by
 by_cases hk:k=0
 ·obtain rfl:v=.nilIface:=by
   rcases hv with ⟨_,h⟩ | ⟨h,_⟩ | ⟨h,_⟩
   ·exact h
   ·exact absurd hk h
   ·exact absurd hk h
  go_enter Tryz.func108,Tryz.ntmps108;go_wp2;go_ret;exact ⟨_,rfl,.inl ⟨hk,rfl⟩,bR _ _⟩
 ·obtain ⟨w1,hw1⟩:∃ w1,w1=w.alloc (.cells #[.int .i64 0] 66):=⟨_,rfl⟩
  have hb1:Below w.heap.size w w1:=by rw [hw1];exact (bR _ w).alloc (nR _) _
  have hB1:aa w1 w.heap.size 66 #[.int .i64 0]:=by rw [hw1];exact aa.new _ _ _
  have hA:=wX (hv.keep fun r _ hl=>hb1.block r hl) hk hB1 ((hb1.cell (World.block_lt_of_cell? w _ hg)).trans hg)
  obtain ⟨tv,pv,rfl⟩:∃ tv pv,v=.iface tv pv:=by
   rcases hv with ⟨h0,_⟩ | ⟨_,rfl⟩ | ⟨_,r,op,nm,rfl,_,hr⟩
   ·exact absurd h0 hk
   ·exact ⟨_,_,rfl⟩
   ·exact ⟨_,_,rfl⟩
  have HW1:=lH hw1;clear hw1 hB1 hv;go_enter Tryz.func108,Tryz.ntmps108
  go_wp2_with (rw [<-HW1.out];go_at_call 33;refine hA.mono ?_;rintro e w2 ⟨rfl,hB2,hf2⟩;have hc2:=hB2.cell 0)
  go_ret;have hb2:Below w.heap.size w w2:=hb1.trans (hf2.below (B:=w.heap.size) hb1.size (fun k hk=>by have hk:k=w.heap.size:=hk;omega));exact ⟨_,rfl,.inr ⟨hk,_,rfl,hb2.size,heap_alloc_new _ _⟩,hb2.alloc hb2.size _⟩
theorem tf {w:World} {B:Nat} {k:Int} {v:Value} (hv:dX B w k v) (hg:ay w):Calls Tryz.prog 34 #[v] w fun e w'=>e=.returned (.int .i64 k)/\Below w.heap.size w w':=by
 by_cases hk:k=0
 ·obtain rfl:v=.nilIface:=by
   rcases hv with ⟨_,h⟩ | ⟨h,_⟩ | ⟨h,_⟩
   ·exact h
   ·exact absurd hk h
   ·exact absurd hk h
  subst hk;go_enter Tryz.func34,Tryz.ntmps34;go_wp2;go_ret;exact ⟨rfl,bR _ _⟩
 ·obtain ⟨w1,hw1⟩:∃ w1,w1=w.alloc (.cells #[.int .i64 0] 66):=⟨_,rfl⟩
  have hb1:Below w.heap.size w w1:=by rw [hw1];exact (bR _ w).alloc (nR _) _
  have hB1:aa w1 w.heap.size 66 #[.int .i64 0]:=by rw [hw1];exact aa.new _ _ _
  have hA:=wX (hv.keep fun r _ hl=>hb1.block r hl) hk hB1 ((hb1.cell (World.block_lt_of_cell? w _ hg)).trans hg)
  obtain ⟨tv,pv,rfl⟩:∃ tv pv,v=.iface tv pv:=by
   rcases hv with ⟨h0,_⟩ | ⟨_,rfl⟩ | ⟨_,r,op,nm,rfl,_,hr⟩
   ·exact absurd h0 hk
   ·exact ⟨_,_,rfl⟩
   ·exact ⟨_,_,rfl⟩
  have HW1:=lH hw1;clear hw1 hB1 hv;go_enter Tryz.func34,Tryz.ntmps34
  go_wp2_with (rw [<-HW1.out];go_at_call 33;refine hA.mono ?_;rintro e w2 ⟨rfl,hB2,hf2⟩;have hc2:=hB2.cell 0)
  go_ret;exact ⟨rfl,hb1.trans (hf2.below (B:=w.heap.size) hb1.size (fun k hk=>by have hk:k=w.heap.size:=hk;omega))⟩
theorem ed (op:ByteArray) {w:World} {B:Nat} {k:Int} {v:Value} (hv:dX B w k v) (hg:ay w):Calls Tryz.prog 25 #[.string op,v] w fun e w'=>∃ v',e=.returned v'/\cm w.heap.size w' op ⟨#[]⟩ k v'/\Below w.heap.size w w':=by
 have hC:=tf hv hg;by_cases hk:k=0
 ·obtain rfl:v=.nilIface:=by
   rcases hv with ⟨_,h⟩ | ⟨h,_⟩ | ⟨h,_⟩
   ·exact h
   ·exact absurd hk h
   ·exact absurd hk h
  go_enter Tryz.func25,Tryz.ntmps25;go_wp2;go_ret;exact ⟨_,rfl,.inl ⟨hk,rfl⟩,bR _ _⟩
 ·obtain ⟨tv,pv,rfl⟩:∃ tv pv,v=.iface tv pv:=by
   rcases hv with ⟨h0,_⟩ | ⟨_,rfl⟩ | ⟨_,r,op,nm,rfl,_,hr⟩
   ·exact absurd h0 hk
   ·exact ⟨_,_,rfl⟩
   ·exact ⟨_,_,rfl⟩
  clear hv;go_enter Tryz.func25,Tryz.ntmps25
  go_wp2_with (go_at_call 34;refine hC.mono ?_;rintro e w2 ⟨rfl,hb2⟩)
  go_ret;exact ⟨_,rfl,.inr ⟨hk,_,rfl,hb2.size,heap_alloc_new _ _⟩,hb2.alloc hb2.size _⟩
theorem AG {B:Nat} (lsn:Nat) (a:Addr) (b:List UInt8) (w:World) (hB:B<=w.heap.size) (hr:Reads w B 1 (some a) b.length (bl b)) (hl:b.length=243) :
 Calls Tryz.prog 56 #[.agg #[.int .i64 1,.int .u64 (lsn:Nat),.slice (some a) 243 243]] w fun e w' =>
  e=.returned (.tuple #[.agg (xn 1 lsn 0 none 0 0 (aC ((b.drop 5).take 4)) (aC ((b.drop 9).take 4)) (aC ((b.drop 13).take 4)) (aC ((b.drop 17).take 8))),.bool (decide (cR (dy++(ag 4 (aC ((b.drop 5).take 4))++(ag 4 (aC ((b.drop 9).take 4))++(ag 4 (aC ((b.drop 13).take 4))++ag 8 (aC ((b.drop 17).take 8))))))=b))])/\Below w.heap.size w w':=by
 have h41:((b.drop 5).take 4).length=4:=by rw [lK,lD];omega
 have hlt1:=bW ((b.drop 5).take 4);rw [h41] at hlt1;have hlt1:aC ((b.drop 5).take 4)<4294967296:=hlt1;have hN1:Hid (∀ W,Below w.heap.size w W->_):=lH fun W hW=>eM a b 5 W (hr.below (hW.mono hB)) hl (by omega)
 obtain ⟨m1,HM1⟩:∃ m,Hid (aC ((b.drop 5).take 4)=m):=⟨_,lH rfl⟩
 rw [HM1.out] at hN1 hlt1 ⊢
 have h42:((b.drop 9).take 4).length=4:=by rw [lK,lD];omega
 have hlt2:=bW ((b.drop 9).take 4);rw [h42] at hlt2;have hlt2:aC ((b.drop 9).take 4)<4294967296:=hlt2;have hN2:Hid (∀ W,Below w.heap.size w W->_):=lH fun W hW=>eM a b 9 W (hr.below (hW.mono hB)) hl (by omega)
 obtain ⟨m2,HM2⟩:∃ m,Hid (aC ((b.drop 9).take 4)=m):=⟨_,lH rfl⟩
 rw [HM2.out] at hN2 hlt2 ⊢
 have h43:((b.drop 13).take 4).length=4:=by rw [lK,lD];omega
 have hlt3:=bW ((b.drop 13).take 4);rw [h43] at hlt3;have hlt3:aC ((b.drop 13).take 4)<4294967296:=hlt3;have hN3:Hid (∀ W,Below w.heap.size w W->_):=lH fun W hW=>eM a b 13 W (hr.below (hW.mono hB)) hl (by omega)
 obtain ⟨m3,HM3⟩:∃ m,Hid (aC ((b.drop 13).take 4)=m):=⟨_,lH rfl⟩
 rw [HM3.out] at hN3 hlt3 ⊢
 have h44:((b.drop 17).take 8).length=8:=by rw [lK,lD];omega
 have hlt4:=bW ((b.drop 17).take 8);rw [h44] at hlt4;have hlt4:aC ((b.drop 17).take 8)<18446744073709551616:=hlt4;have hN4:Hid (∀ W,Below w.heap.size w W->_):=lH fun W hW=>dB (some (a.add 17)) 226 ((b.drop 17).take 8) W (by rw [h44];exact mO (hr.below (hW.mono hB)) (m:=17) (n:=8) (by omega)) (by omega);rw [h44] at hN4;rw [show a.add 17=⟨a.block,a.off+17,none⟩ from rfl] at hN4
 obtain ⟨m4,HM4⟩:∃ m,Hid (aC ((b.drop 17).take 8)=m):=⟨_,lH rfl⟩
 rw [HM4.out] at hN4 hlt4 ⊢
 obtain ⟨w0,hw0⟩:∃ w0,w0=(w.alloc (.cells #[.int .i64 1,.int .u64 (lsn:Nat),.slice (some a) 243 243] 133)).alloc (.cells #[.int .i64 1,.int .u64 (lsn:Nat),.slice none 0 0,.int .u32 0,.slice none 0 0,.int .u32 0,.int .u32 0,.int .u32 0,.int .u64 0] 95):=⟨_,rfl⟩
 have hb0:Below w.heap.size w w0:=by rw [hw0];exact (((bR w.heap.size w).alloc (by simp) _).alloc (by simp) _)
 have hK0:aa w0 (w.heap.size+1) 95 #[.int .i64 1,.int .u64 (lsn:Nat),.slice none 0 0,.int .u32 0,.slice none 0 0,.int .u32 0,.int .u32 0,.int .u32 0,.int .u64 0]:=by rw [hw0];exact iW _ _ _ (by simp)
 have hbd0:Below w.heap.size w w0.drew:=hb0.drew;have hKd:aa w0.drew (w.heap.size+1) 95 #[.int .i64 1,.int .u64 (lsn:Nat),.slice none 0 0,.int .u32 0,.slice none 0 0,.int .u32 0,.int .u32 0,.int .u32 0,.int .u64 0]:=hK0;have k5:w0.drew.cell? ⟨w.heap.size+1,5,none⟩=some (.int .u32 0):=hKd.cell 5;have k6:w0.drew.cell? ⟨w.heap.size+1,6,none⟩=some (.int .u32 0):=hKd.cell 6;have k7:w0.drew.cell? ⟨w.heap.size+1,7,none⟩=some (.int .u32 0):=hKd.cell 7;have k8:w0.drew.cell? ⟨w.heap.size+1,8,none⟩=some (.int .u64 0):=hKd.cell 8;have f5:=hKd.frozen 5;have f6:=hKd.frozen 6;have f7:=hKd.frozen 7;have f8:=hKd.frozen 8;have g6:(w0.setCell ⟨w.heap.size+1,5,none⟩ (.int .u32 (m1:Nat))).drew.cell? ⟨w.heap.size+1,6,none⟩=some (.int .u32 0):=(hK0.set_ 5 _).cell 6;have g6f:(w0.setCell ⟨w.heap.size+1,5,none⟩ (.int .u32 (m1:Nat))).drew.frozen? ⟨w.heap.size+1,6,none⟩=false:=(hK0.set_ 5 _).frozen 6;have g7:((w0.setCell ⟨w.heap.size+1,5,none⟩ (.int .u32 (m1:Nat))).setCell ⟨w.heap.size+1,6,none⟩ (.int .u32 (m2:Nat))).drew.cell? ⟨w.heap.size+1,7,none⟩=some (.int .u32 0):=((hK0.set_ 5 _).set_ 6 _).cell 7;have g7f:((w0.setCell ⟨w.heap.size+1,5,none⟩ (.int .u32 (m1:Nat))).setCell ⟨w.heap.size+1,6,none⟩ (.int .u32 (m2:Nat))).drew.frozen? ⟨w.heap.size+1,7,none⟩=false:=((hK0.set_ 5 _).set_ 6 _).frozen 7;have g8:(((w0.setCell ⟨w.heap.size+1,5,none⟩ (.int .u32 (m1:Nat))).setCell ⟨w.heap.size+1,6,none⟩ (.int .u32 (m2:Nat))).setCell ⟨w.heap.size+1,7,none⟩ (.int .u32 (m3:Nat))).drew.cell? ⟨w.heap.size+1,8,none⟩=some (.int .u64 0):=(((hK0.set_ 5 _).set_ 6 _).set_ 7 _).cell 8;have g8f:(((w0.setCell ⟨w.heap.size+1,5,none⟩ (.int .u32 (m1:Nat))).setCell ⟨w.heap.size+1,6,none⟩ (.int .u32 (m2:Nat))).setCell ⟨w.heap.size+1,7,none⟩ (.int .u32 (m3:Nat))).drew.frozen? ⟨w.heap.size+1,8,none⟩=false:=(((hK0.set_ 5 _).set_ 6 _).set_ 7 _).frozen 8;have hC1:Calls Tryz.prog 78 #[.slice (some a) 243 243,.int .i64 5] w0.drew fun e w'=>e=.returned (.int .u32 (m1:Nat))/\w0.drew=w':=hN1.out _ hbd0;have hC2:Calls Tryz.prog 78 #[.slice (some a) 243 243,.int .i64 9] w0.drew fun e w'=>e=.returned (.int .u32 (m2:Nat))/\w0.drew=w':=hN2.out _ hbd0;have hC3:Calls Tryz.prog 78 #[.slice (some a) 243 243,.int .i64 13] w0.drew fun e w'=>e=.returned (.int .u32 (m3:Nat))/\w0.drew=w':=hN3.out _ hbd0;have hC4:=hN4.out _ hbd0;have z1:IntKind.i64.wrap 9=9:=rfl;have z2:IntKind.i64.wrap 13=13:=rfl;have z3:IntKind.i64.wrap 17=17:=rfl;have z4:IntKind.i64.wrap 25=25:=rfl
 obtain ⟨w1,hw1⟩:∃ w1,w1=((((w0.setCell ⟨w.heap.size+1,5,none⟩ (.int .u32 (m1:Nat))).setCell ⟨w.heap.size+1,6,none⟩ (.int .u32 (m2:Nat))).setCell ⟨w.heap.size+1,7,none⟩ (.int .u32 (m3:Nat))).setCell ⟨w.heap.size+1,8,none⟩ (.int .u64 (m4:Nat))).drew:=⟨_,rfl⟩
 have hK1:aa w1 (w.heap.size+1) 95 #[.int .i64 1,.int .u64 (lsn:Nat),.slice none 0 0,.int .u32 0,.slice none 0 0,.int .u32 (m1:Nat),.int .u32 (m2:Nat),.int .u32 (m3:Nat),.int .u64 (m4:Nat)]:=by rw [hw1];exact (((hK0.set_ 5 _).set_ 6 _).set_ 7 _).set_ 8 _
 have hb1:Below w.heap.size w w1:=by rw [hw1];exact ((((hb0.setCell (p:=⟨w.heap.size+1,5,none⟩) (Nat.le_succ _) _).setCell (p:=⟨w.heap.size+1,6,none⟩) (Nat.le_succ _) _).setCell (p:=⟨w.heap.size+1,7,none⟩) (Nat.le_succ _) _).setCell (p:=⟨w.heap.size+1,8,none⟩) (Nat.le_succ _) _).drew
 have kS:Hid (∀ W,Below w1.heap.size w1 W->(W.cell? ⟨w.heap.size+1,0,none⟩=some (.int .i64 1)/\W.cell? ⟨w.heap.size+1,1,none⟩=some (.int .u64 (lsn:Nat))/\W.cell? ⟨w.heap.size+1,2,none⟩=some (.slice none 0 0)/\W.cell? ⟨w.heap.size+1,3,none⟩=some (.int .u32 0)/\W.cell? ⟨w.heap.size+1,4,none⟩=some (.slice none 0 0)/\W.cell? ⟨w.heap.size+1,5,none⟩=some (.int .u32 (m1:Nat))/\W.cell? ⟨w.heap.size+1,6,none⟩=some (.int .u32 (m2:Nat))/\W.cell? ⟨w.heap.size+1,7,none⟩=some (.int .u32 (m3:Nat))/\W.cell? ⟨w.heap.size+1,8,none⟩=some (.int .u64 (m4:Nat)))):=lH fun W hW=>⟨(hK1.below hW hK1.lt).cell 0,(hK1.below hW hK1.lt).cell 1,(hK1.below hW hK1.lt).cell 2,(hK1.below hW hK1.lt).cell 3,(hK1.below hW hK1.lt).cell 4,(hK1.below hW hK1.lt).cell 5,(hK1.below hW hK1.lt).cell 6,(hK1.below hW hK1.lt).cell 7,(hK1.below hW hK1.lt).cell 8⟩
 have hBd:=rQ ⟨1,lsn,none,0,[],0,none,0,[],m1,m2,m3,m4⟩ w1.drew rfl hlt1 hlt2 hlt3 hlt4;have hbn:aZ (NX.n ⟨1,lsn,none,0,[],0,none,0,[],m1,m2,m3,m4⟩)=cR (dy++(ag 4 m1++(ag 4 m2++(ag 4 m3++ag 8 m4)))):=rfl;rw [hbn] at hBd;unfold NX.val aJ at hBd;dsimp only [List.length_nil] at hBd;simp only [Int.natCast_zero] at hBd
 have hpl:(cR (dy++(ag 4 m1++(ag 4 m2++(ag 4 m3++ag 8 m4))))).length=243:=by unfold cR;simp [fL,dy]
 obtain ⟨q,HQ⟩:∃ q,Hid (cR (dy++(ag 4 m1++(ag 4 m2++(ag 4 m3++ag 8 m4))))=q):=⟨_,lH rfl⟩
 rw [HQ.out] at hBd hpl ⊢;have hEq:Hid (∀ (W:World) (g:Nat),Below w.heap.size w W->aa W g 5 (bl q).toArray->_):=lH fun W g hW hG=>dI 243 243 W (rB hG rfl) (hr.below (hW.mono hB));rw [hl,hpl] at hEq;have HW1:=lH hw1;have HK1:=lH hK1;have HW0:=lH hw0;clear hw1 hK1 hw0 hK0 hKd;go_enter Tryz.func56,Tryz.ntmps56
 go_wp2_with fail
 rw [<-HW0.out];refine oT 19 (by kernel_rfl) (by kernel_rfl) ?_;simp only [List.take_succ_cons,List.take_zero,List.drop_succ_cons,List.drop_zero]
 repeat still_step
 still_call (hC1.mono fun _ _ h=>⟨h.1,h.2.symm⟩)
 repeat still_step
 still_call (hC2.mono fun _ _ h=>⟨h.1,h.2.symm⟩)
 repeat still_step
 still_call (hC3.mono fun _ _ h=>⟨h.1,h.2.symm⟩)
 repeat still_step
 still_call (hC4.mono fun _ _ h=>⟨h.1,h.2.symm⟩)
 repeat still_step
 refine wpStill_nil ?_
 go_wp2_with fail
 rw [<-HW1.out]
 go_wp2_with fail
 have hbd:Below w1.heap.size w1 w1.drew:=(bR _ w1).drew;refine bB 5 (fun W0=>W0.cell? ⟨w.heap.size+1,0,none⟩=some (.int .i64 1)/\W0.cell? ⟨w.heap.size+1,1,none⟩=some (.int .u64 (lsn:Nat))/\W0.cell? ⟨w.heap.size+1,2,none⟩=some (.slice none 0 0)/\W0.cell? ⟨w.heap.size+1,3,none⟩=some (.int .u32 0)/\W0.cell? ⟨w.heap.size+1,4,none⟩=some (.slice none 0 0)/\W0.cell? ⟨w.heap.size+1,5,none⟩=some (.int .u32 (m1:Nat))/\W0.cell? ⟨w.heap.size+1,6,none⟩=some (.int .u32 (m2:Nat))/\W0.cell? ⟨w.heap.size+1,7,none⟩=some (.int .u32 (m3:Nat))/\W0.cell? ⟨w.heap.size+1,8,none⟩=some (.int .u64 (m4:Nat))) (kS.out _ hbd) (fun hHeld hTl=>?_);refine ae 0 hTl hHeld (fun hTl=>?_)
 try simp only [pT]
 refine ae 1 hTl hHeld (fun hTl=>?_)
 try simp only [pT]
 refine ae 3 hTl hHeld (fun hTl=>?_)
 try simp only [pT]
 clear hTl;refine sP 2 hBd ?_
 rintro e w3 ⟨g,e3,hg,hG,hb3⟩;subst e3;have hb3':=hbd.trans (hb3.mono hbd.size)
 refine ⟨_,rfl,(fun _=>kS.out _ hb3'),?_⟩
 try simp only [pT]
 have hE3:=hEq.out _ _ (hb1.trans (hb3'.mono hb1.size)) hG;refine sP 4 hE3 ?_;rintro e w4 ⟨e4,h4⟩;subst e4;subst h4;refine ⟨_,rfl,(fun _=>kS.out _ hb3'),?_⟩
 try simp only [pT]
 have hK3:=HK1.out.below hb3' HK1.out.lt;refine aA 5 (fun K hK=>?_);refine au rfl 95 (.tmp 2) (.tmp 69) rfl (w.heap.size+1) #[.int .i64 1,.int .u64 (lsn:Nat),.slice none 0 0,.int .u32 0,.slice none 0 0,.int .u32 (m1:Nat),.int .u32 (m2:Nat),.int .u32 (m3:Nat),.int .u64 (m4:Nat)] rfl rfl 95 _ hK3 (by kernel_rfl) rfl (by simp [Value.oneCell']) ?_
 skip
 refine hK.out _ _ (fun h=>absurd h (by decide)) ?_;clear hK K
 try simp only [pT]
 refine az 6 (fun K hK=>?_);go_simp;refine hK.out _ _ ?_;clear hK K
 try simp only [pT]
 refine cW ?_ _;go_wp2;refine bodyPost_ret (rT rfl _ _ (w.heap.size+1) 95 #[.int .i64 1,.int .u64 (lsn:Nat),.slice none 0 0,.int .u32 0,.slice none 0 0,.int .u32 (m1:Nat),.int .u32 (m2:Nat),.int .u32 (m3:Nat),.int .u64 (m4:Nat)] (0,0) _ rfl (setRow_heap _ _ _ _ _ _ hK3) Tryz.underlying95 rfl (by kernel_rfl)) rfl ?_;refine ⟨rfl,?_⟩;have hb4:=hb1.trans (hb3'.mono hb1.size);exact hb4.trans ((fS _ _ _).below (B:=w.heap.size) hb4.size (fun k hk=>by omega))
theorem EF (lsn:Nat) (b:List UInt8):pp 1 lsn b:=by
 intro B a w hB hr hl;refine (AG lsn a b w hB hr hl).mono ?_;rintro e w' ⟨rfl,hb⟩;have e1:cT 1 lsn b=if cR (dy++(ag 4 (aC ((b.drop 5).take 4))++(ag 4 (aC ((b.drop 9).take 4))++(ag 4 (aC ((b.drop 13).take 4))++ag 8 (aC ((b.drop 17).take 8))))))=b then some ⟨1,lsn,[],0,[],aC ((b.drop 5).take 4),aC ((b.drop 9).take 4),aC ((b.drop 13).take 4),aC ((b.drop 17).take 8)⟩ else none:=rfl;refine ⟨⟨1,lsn,none,0,[],0,none,0,[],aC ((b.drop 5).take 4),aC ((b.drop 9).take 4),aC ((b.drop 13).take 4),aC ((b.drop 17).take 8)⟩,?_,?_,⟨⟨.inl rfl,fun y hy=>(by cases hy),fun y hy=>(by cases hy)⟩,Reads.none_,fun y hy=>(by cases hy),zL _,zL _⟩,⟨fun ad h=>(by cases h),fun ad h=>(by cases h),fun y hy=>(by cases hy),fun y hy=>(by cases hy)⟩,hb⟩
 ·rw [e1,s9];rfl
 ·intro n hn;rw [e1] at hn
  split at hn
  ·cases hn;rfl
  ·cases hn
def tl (l:List Bool):List Value:=l.map .bool
theorem CC (l:List Bool):(tl l).length=l.length:=List.length_map _
theorem CF {B:Nat} (A:Option Addr) (c:Nat) (l:List Bool) (w:World) (hr:Reads w B 1 A l.length (tl l)) (hl:l.length<=1000) :
 Calls Tryz.prog 178 #[.slice A l.length c,.bool true] w fun e w'=>∃ z:Int,e=.returned (.int .i64 z)/\(0<=z↔true∈l)/\w'=w:=by
 have HR:=lH hr;clear hr;go_enter Tryz.func178,Tryz.ntmps178;go_wp2
 go_loopw [8] (fun i wr=>∃ k:Nat,k<=l.length/\i=.int .i64 k/\(∀ j,j<k->l[j]?=some false)/\wr=w) (fun i _=>l.length-(intOf i).toNat)
 case atStart=>exact ⟨0,zL _,rfl,fun j hj=>absurd hj (Nat.not_lt_zero _),rfl⟩
 case round =>
  obtain ⟨k,hk,rfl,hno,hq⟩:=hrel;have HNO:=lH (aI hno hq);by_cases hlt:k<l.length
  ·have d1:decide (k<l.length)=true:=dT hlt
   obtain ⟨x,hx⟩:∃ x,l[k]?=some x:=⟨_,gE hlt⟩
   obtain ⟨ad,rfl,_,hc⟩:=HR.out.2 (by omega)
   have c1:wr.cell? (ad.add k)=some (.bool x):=by rw [HNO.out.2];exact hc k _ (by unfold tl;rw [List.getElem?_map,hx];rfl)
   have a5:(0:Int)<=(k:Int):=by omega
   have a6:(k:Int)<(l.length:Int):=by omega
   have HX:=lH hx;clear hc hx hno hq
   cases x with
   | true =>
    go_wp2;go_ret;exact ⟨_,rfl,⟨fun _=>mG HX.out,fun _=>a5⟩,HNO.out.2⟩
   | false =>
    go_wp2
    go_roundw
    case rel=>exact ⟨k+1,by omega,by go_num,fun j hj=>by
     by_cases e:j=k
     ·rw [e];exact HX.out
     ·exact HNO.out.1 j (by omega),HNO.out.2⟩
    case measure=>simp [intOf];omega
  ·have d1:decide (k<l.length)=false:=dF hlt;go_wp2;go_ret;refine ⟨_,rfl,⟨fun h=>absurd h (by decide),fun h=>?_⟩,rfl⟩;obtain ⟨j,hj⟩:=List.getElem?_of_mem h;have hjl:=(lS.1 hj).1;rw [HNO.out.1 j (by omega)] at hj
   cases hj
theorem CG {B:Nat} (A:Option Addr) (c:Nat) (l:List Bool) (w:World) (hr:Reads w B 1 A l.length (tl l)) (hl:l.length<=1000) :
 Calls Tryz.prog 166 #[.slice A l.length c,.bool true] w fun e w'=>e=.returned (.bool (decide (true∈l)))/\w'=w:=by
 have hI:=CF A c l w hr hl;clear hr;go_enter Tryz.func166,Tryz.ntmps166
 go_wp2_with (go_at_call 178;refine hI.mono ?_;rintro e w2 ⟨z,rfl,hz,rfl⟩)
 go_ret;exact ⟨rfl,rfl⟩
theorem vj (r o i:Nat):(⟨r,o,none⟩:Addr).add i=⟨r,o+i,none⟩:=by unfold Addr.add;split <;> simp_all
def FH (t:Nat->Bool):List Bool:=(List.range 243).map t
theorem tj (t:Nat->Bool):(FH t).length=243:=by unfold FH;rw [List.length_map,List.length_range]
theorem tn (t:Nat->Bool) {j:Nat} (h:j<243):(FH t)[j]?=some (t j):=by unfold FH;rw [List.getElem?_map,List.getElem?_range h];rfl
def xx (w:World) (g:Nat) (t:Nat->Bool):Prop:=aa w g 271 (tl (FH t)).toArray
theorem xx.cell {w:World} {g:Nat} {t:Nat->Bool} (h:xx w g t) {j:Nat} (hj:j<243):w.cell? ⟨g,j,none⟩=some (.bool (t j)):=by
 have h1:=aa.cell h j;rw [h1];unfold tl;simp [tn t hj]
theorem xx.step {w:World} {g:Nat} {t:Nat->Bool} {a k:Nat} (h:xx w g (iU t a k)) (hk:a+k<243):xx (w.setCell ⟨g,a+k,none⟩ (.bool true)) g (iU t a (k+1)):=by
 have h1:=aa.set_ h (a+k) (.bool true)
 have e:(tl (FH (iU t a k))).toArray.setIfInBounds (a+k) (.bool true)=(tl (FH (iU t a (k+1)))).toArray:=by
  rw [List.setIfInBounds_toArray];congr 1;apply List.ext_getElem?;intro j;rw [List.getElem?_set,CC,tj];unfold tl;by_cases hj:j<243
  ·rw [List.getElem?_map,List.getElem?_map,tn _ hj,tn _ hj];by_cases e:a+k=j
   ·subst e;rw [if_pos rfl,if_pos hj];simp [iU]
   ·rw [if_neg e]
    have:iU t a k j=iU t a (k+1) j:=by
     unfold iU;congr 1;rw [Bool.eq_iff_iff];simp only [Bool.and_eq_true,decide_eq_true_eq];omega
    rw [this]
  ·rw [List.getElem?_map,List.getElem?_map,List.getElem?_eq_none (by rw [tj];omega),List.getElem?_eq_none (by rw [tj];omega),if_neg (by omega)]
 rw [e] at h1;exact h1
theorem xx.below {w w':World} {g B:Nat} {t:Nat->Bool} (h:xx w g t) (hb:Below B w w') (hg:g<B):xx w' g t:=aa.below h hb hg
theorem xx.reads {w:World} {g:Nat} {t:Nat->Bool} (h:xx w g t) {a n:Nat} (hn:a+n<=243):Reads w w.heap.size 1 (some (if 243=a then ⟨g,0,none⟩ else ⟨g,a,none⟩)) n (tl ((List.range n).map fun k=>t (a+k))):=by
 refine ⟨by rw [CC,List.length_map,List.length_range,Nat.mul_one],fun h0=>?_⟩;rw [if_neg (by omega)];refine ⟨_,rfl,aa.lt h,fun j u hu=>?_⟩;unfold tl at hu;rw [List.map_map,List.getElem?_map] at hu
 have hj:j<n:=by
  rcases Nat.lt_or_ge j n with h9 | h9
  ·exact h9
  ·rw [List.getElem?_eq_none (by rw [List.length_range];omega)] at hu;cases hu
 rw [List.getElem?_range hj] at hu;simp only [Option.map_some,Function.comp,Option.some.injEq] at hu;rw [vj,h.cell (by omega),hu]
theorem AH (t:Nat->Bool) (a n:Nat):yU t a n=!decide (true∈(List.range n).map fun k=>t (a+k)):=by
 unfold yU;rw [Bool.eq_iff_iff,List.all_eq_true,Bool.not_eq_true',decide_eq_false_iff_not,List.mem_map];constructor
 ·rintro h ⟨k,hk,e⟩;have:=h k hk;rw [e] at this
  cases this
 ·intro h k hk
  cases e:t (a+k) with
  | false=>rfl
  | true=>exact absurd ⟨k,hk,e⟩ h
theorem CH (t:Nat->Bool) (a:Nat):iU t a 0=t:=by
 funext j
 unfold iU
 cases t j with
 | true=>rfl
 | false =>
  rw [Bool.false_or,Bool.and_eq_false_iff,decide_eq_false_iff_not,decide_eq_false_iff_not];omega
theorem xy {w:World} {s:Nat} {b:List UInt8} (hS:SB w s b) (h2:2+2*(b.getD 0 0).toNat<=243) :
 Calls Tryz.prog 145 #[.pointer (some ⟨s,0,none⟩)] w fun e w'=>e=.returned (.bool (decide (2+2*(b.getD 0 0).toNat<=(b.getD 1 0).toNat/\(b.getD 1 0).toNat<=243) && uH b (b.getD 0 0).toNat 0 (fun _=>false)))/\Below w.heap.size w w':=by
 have hL:Hid (∀ W,SB W s b->_):=lH fun W hW=>cX (w:=W) hW;have hT:Hid (∀ W,SB W s b->_):=lH fun W hW=>pc (w:=W) hW;have hD:=gp (b.getD 0 0).toNat (by omega) w;have hk:(b.getD 1 0).toNat<256:=(b.getD 1 0).toNat_lt
 obtain ⟨t,HT⟩:∃ k,Hid ((b.getD 1 0).toNat=k):=⟨_,lH rfl⟩
 have hin:∀ k i f,uH b (k+1) i f=(decide (t<=qY b i) && decide (qY b i+ow b i<=243) && decide (ow b i<=78) && yU f (qY b i) (ow b i) && uH b k (i+1) (iU f (qY b i) (ow b i))):=fun k i f=>by rw [<-HT.out];rfl
 obtain ⟨n,HN⟩:∃ k,Hid ((b.getD 0 0).toNat=k):=⟨_,lH rfl⟩
 obtain ⟨d,HDD⟩:∃ d,Hid (2+2*n=d):=⟨_,lH rfl⟩
 rw [HN.out] at hL h2 hD ⊢;rw [HDD.out] at hD h2 ⊢;rw [HT.out] at hT hk ⊢;have hL0:=hL.out w hS;have hT0:=hT.out w hS;by_cases q1:t<d
 ·have d1:decide (t<d)=true:=dT q1;rw [show decide (d<=t/\t<=243)=false from dF (by omega),Bool.false_and];go_enter Tryz.func145,Tryz.ntmps145
  go_wp2_with (first | (go_at_call 111;refine hL0.mono ?_;rintro e w1 ⟨rfl,rfl⟩) | (go_at_call 149;refine hT0.mono ?_;rintro e w1 ⟨rfl,rfl⟩) | (go_at_call 144;refine hD.mono ?_;rintro e w1 ⟨rfl,rfl⟩))
  go_ret;exact ⟨rfl,bR _ _⟩
 have d1:decide (t<d)=false:=dF q1;by_cases q2:243<t
 ·have d2:decide (243<t)=true:=dT q2;rw [show decide (d<=t/\t<=243)=false from dF (by omega),Bool.false_and];go_enter Tryz.func145,Tryz.ntmps145
  go_wp2_with (first | (go_at_call 111;refine hL0.mono ?_;rintro e w1 ⟨rfl,rfl⟩) | (go_at_call 149;refine hT0.mono ?_;rintro e w1 ⟨rfl,rfl⟩) | (go_at_call 144;refine hD.mono ?_;rintro e w1 ⟨rfl,rfl⟩))
  go_ret;exact ⟨rfl,bR _ _⟩
 have d2:decide (243<t)=false:=dF q2;rw [show decide (d<=t/\t<=243)=true from dT (by omega),Bool.true_and]
 obtain ⟨w1,hw1⟩:∃ w1,w1=w.alloc (.cells Tryz.zeroCells271 271):=⟨_,rfl⟩
 have hb1:Below w.heap.size w w1:=by rw [hw1];exact (bR _ w).alloc (nR _) _
 have hK1:xx w1 w.heap.size (fun _=>false):=by
  rw [hw1];have:=aa.new w 271 Tryz.zeroCells271;unfold xx;rw [show (tl (FH fun _=>false)).toArray=Tryz.zeroCells271 by kernel_rfl];exact this
 have hS1:=hS.below hb1 hS.lt;have hL1:=hL.out w1 hS1;have hsl:=hS.lt;have HW1:=lH hw1;have HK1:=lH hK1;have HIN:=lH hin;clear hw1 hK1 hin;go_enter Tryz.func145,Tryz.ntmps145
 go_wp2_with (first | (go_at_call 111;refine hL0.mono ?_;rintro e w2 ⟨rfl,rfl⟩) | (go_at_call 149;refine hT0.mono ?_;rintro e w2 ⟨rfl,rfl⟩) | (go_at_call 144;refine hD.mono ?_;rintro e w2 ⟨rfl,rfl⟩) | (rw [<-HW1.out];go_at_call 111;refine hL1.mono ?_;rintro e w2 ⟨rfl,rfl⟩))
 go_loopw [21] (fun i wr=>∃ (k:Nat) (f:Nat->Bool),k<=n/\i=.int .i64 k/\xx wr w.heap.size f/\uH b n 0 (fun _=>false)=uH b (n-k) k f/\Below w.heap.size w wr) (fun i _=>n-(intOf i).toNat)
 case atStart=>exact ⟨0,_,zL _,rfl,HK1.out,rfl,hb1⟩
 case round =>
  obtain ⟨k,f,hk2,rfl,hTk,hEq,hb⟩:=hrel
  obtain ⟨wo,rfl⟩:∃ wo,wo=wr:=⟨wr,rfl⟩
  by_cases hlt:k<n
  ·have dl:decide (k<n)=true:=dT hlt;have hP:=jE (hS.below hb hsl) k (by have:=HDD.out;omega);have hp8:qY b k<256:=(b.getD (2+2*k) 0).toNat_lt;have hm8:ow b k<256:=(b.getD (3+2*k) 0).toNat_lt;have hq:=HIN.out (n-k-1) k f;rw [show n-k-1+1=n-k by omega] at hq
   obtain ⟨p,HP⟩:∃ z,Hid (qY b k=z):=⟨_,lH rfl⟩
   obtain ⟨m,HM⟩:∃ z,Hid (ow b k=z):=⟨_,lH rfl⟩
   rw [HP.out] at hP hp8 hq;rw [HM.out] at hP hm8 hq;have HE:=lH (hEq.trans hq);have HTK:=lH hTk;clear hEq hq hTk
   have ak:IntKind.i64.wrap ((k:Int)+1)=(k:Int)+1:=by have:=HDD.out;rw [IntKind.wrap_i64];omega
   have a1:IntKind.i64.wrap ((p:Int)+(m:Int))=(p:Int)+(m:Int):=by rw [IntKind.wrap_i64];omega
   by_cases c1:p<t
   ·have e1:decide (p<t)=true:=dT c1
    have hf:uH b n 0 (fun _=>false)=false:=by rw [HE.out,dF (by omega)];rfl
    have HF:=lH hf;clear hf
    go_wp2_with (first
     | (go_at_call 146;refine hP.mono ?_;rintro e w2 ⟨rfl,hb2⟩;have hb02:=hb.trans (hb2.mono hb.size);have hT2:=hT.out w2 (hS.below hb02 hsl))
     | (go_at_call 149;refine hT2.mono ?_;rintro e w3 ⟨rfl,h3⟩;have h3:=h3.symm;subst h3))
    go_ret;exact ⟨by rw [HF.out];rfl,hb02⟩
   have e1:decide (p<t)=false:=dF c1;by_cases c2:243<p+m
   ·have e2:decide (243<(p:Int)+(m:Int))=true:=dT (by omega)
    have hf:uH b n 0 (fun _=>false)=false:=by rw [HE.out,dF (show ¬ p+m<=243 by omega)];simp
    have HF:=lH hf;clear hf
    go_wp2_with (first
     | (go_at_call 146;refine hP.mono ?_;rintro e w2 ⟨rfl,hb2⟩;have hb02:=hb.trans (hb2.mono hb.size);have hT2:=hT.out w2 (hS.below hb02 hsl))
     | (go_at_call 149;refine hT2.mono ?_;rintro e w3 ⟨rfl,h3⟩;have h3:=h3.symm;subst h3))
    go_ret;exact ⟨by rw [HF.out];rfl,hb02⟩
   have e2:decide (243<(p:Int)+(m:Int))=false:=dF (by omega);by_cases c3:78<m
   ·have e3:decide (78<m)=true:=dT c3
    have hf:uH b n 0 (fun _=>false)=false:=by rw [HE.out,dF (show ¬ m<=78 by omega)];simp
    have HF:=lH hf;clear hf
    go_wp2_with (first
     | (go_at_call 146;refine hP.mono ?_;rintro e w2 ⟨rfl,hb2⟩;have hb02:=hb.trans (hb2.mono hb.size);have hT2:=hT.out w2 (hS.below hb02 hsl))
     | (go_at_call 149;refine hT2.mono ?_;rintro e w3 ⟨rfl,h3⟩;have h3:=h3.symm;subst h3))
    go_ret;exact ⟨by rw [HF.out];rfl,hb02⟩
   have e3:decide (78<m)=false:=dF c3
   have b1:(0:Int)<=(p:Int):=by omega
   have b2:(p:Int)<=(p:Int)+(m:Int):=by omega
   have b3:(p:Int)+(m:Int)<=243:=by omega
   have b4:((p:Int)+(m:Int)).toNat=p+m:=by omega
   have b5:¬ (p:Int)+(m:Int)<0:=by omega
   obtain ⟨lb,HLB⟩:∃ z,Hid ((List.range m).map (fun k=>f (p+k))=z):=⟨_,lH rfl⟩
   have hlb:lb.length=m:=by rw [<-HLB.out,List.length_map,List.length_range]
   have hBH:=fun W (hW:xx W w.heap.size f)=>CG (B:=W.heap.size) (some (if 243=p then ⟨w.heap.size,0,none⟩ else ⟨w.heap.size,p,none⟩)) (243-p) lb W (by rw [<-HLB.out,List.length_map,List.length_range];exact hW.reads (by omega)) (by omega);have hfr:=AH f p m;rw [HLB.out] at hfr
   obtain ⟨q,HQ⟩:∃ z,Hid (decide (true∈lb)=z):=⟨_,lH rfl⟩
   rw [HQ.out] at hBH hfr;rw [hlb] at hBH;have HFR:=lH hfr;clear hfr
   cases q with
   | true =>
    have hf:uH b n 0 (fun _=>false)=false:=by rw [HE.out,HFR.out];simp
    have HF:=lH hf;clear hf
    go_wp2_with (first
     | (go_at_call 146;refine hP.mono ?_;rintro e w2 ⟨rfl,hb2⟩;have hb02:=hb.trans (hb2.mono hb.size);have hT2:=hT.out w2 (hS.below hb02 hsl);have hK2:=HTK.out.below hb2 (aa.lt HTK.out);have hB2:=hBH w2 hK2)
     | (go_at_call 149;refine hT2.mono ?_;rintro e w3 ⟨rfl,h3⟩;have h3:=h3.symm;subst h3)
     | (go_at_call 166;refine hB2.mono ?_;rintro e w3 ⟨rfl,h3⟩;subst h3))
    all_goals
     go_ret;exact ⟨by rw [HF.out];rfl,hb02⟩
   | false =>
    have hok:uH b n 0 (fun _=>false)=uH b (n-k-1) (k+1) (iU f p m):=by rw [HE.out,HFR.out,dT (show t<=p by omega),dT (show p+m<=243 by omega),dT (show m<=78 by omega)];simp
    have HF:=lH hok;clear hok;by_cases cp:243=p
    ·simp only [if_pos cp] at hBH
     have hm0:m=0:=by omega
     subst hm0;subst cp
     go_wp2_with (first
      | (go_at_call 146;refine hP.mono ?_;rintro e w2 ⟨rfl,hb2⟩;have hb02:=hb.trans (hb2.mono hb.size);have hT2:=hT.out w2 (hS.below hb02 hsl);have hK2:=HTK.out.below hb2 (aa.lt HTK.out);have hB2:=hBH w2 hK2)
      | (go_at_call 149;refine hT2.mono ?_;rintro e w3 ⟨rfl,h3⟩;have h3:=h3.symm;subst h3)
      | (go_at_call 166;refine hB2.mono ?_;rintro e w3 ⟨rfl,h3⟩;subst h3))
     refine wp_loop_rounds 1 ?_;rw [rounds_succ];go_wp2
     go_roundw
     case rel=>exact ⟨k+1,iU f 243 0,by omega,by go_num,by rw [CH];exact hK2,by rw [HF.out,show n-(k+1)=n-k-1 by omega],hb02⟩
     case measure=>simp [intOf];omega
    ·simp only [if_neg cp] at hBH
     go_wp2_with (first
      | (go_at_call 146;refine hP.mono ?_;rintro e w2 ⟨rfl,hb2⟩;have hb02:=hb.trans (hb2.mono hb.size);have hT2:=hT.out w2 (hS.below hb02 hsl);have hK2:=HTK.out.below hb2 (aa.lt HTK.out);have hB2:=hBH w2 hK2)
      | (go_at_call 149;refine hT2.mono ?_;rintro e w3 ⟨rfl,h3⟩;have h3:=h3.symm;subst h3)
      | (go_at_call 166;refine hB2.mono ?_;rintro e w3 ⟨rfl,h3⟩;subst h3))
     go_loopw [53] (fun i wr=>∃ j:Nat,j<=m/\i=.int .i64 j/\xx wr w.heap.size (iU f p j)/\Below w.heap.size w wr) (fun i _=>m-(intOf i).toNat)
     case atStart=>exact ⟨0,zL _,rfl,by rw [CH];exact hK2,hb02⟩
     case round =>
      obtain ⟨j,hj,rfl,hTj,hbj⟩:=hrel
      obtain ⟨wp,rfl⟩:∃ wp,wp=wr:=⟨wr,rfl⟩
      by_cases hjm:j<m
      ·have dj:decide (j<m)=true:=dT hjm
       have aj:IntKind.i64.wrap ((j:Int)+1)=(j:Int)+1:=by rw [IntKind.wrap_i64];omega
       have g1:IntKind.i64.wrap ((p:Int)+(j:Int))=(p:Int)+(j:Int):=by rw [IntKind.wrap_i64];omega
       have g2:(0:Int)<=(p:Int)+(j:Int):=by omega
       have g3:(p:Int)+(j:Int)<243:=by omega
       have g4:((p:Int)+(j:Int)).toNat=p+j:=by omega
       have g5:¬ (p:Int)+(j:Int)<0:=by omega
       have gc:=hTj.cell (j:=p+j) (by omega)
       obtain ⟨bv,hbv⟩:∃ z,iU f p j (p+j)=z:=⟨_,rfl⟩
       rw [hbv] at gc;clear hbv;have gf:=aa.frozen hTj (p+j);have HTJ:=lH hTj;clear hTj;go_wp2
       go_roundw
       case rel=>exact ⟨j+1,by omega,by go_num,HTJ.out.step (by omega),hbj.setCell (p:=⟨w.heap.size,p+j,none⟩) (nR _) _⟩
       case measure=>simp [intOf];omega
      ·have dj:decide (j<m)=false:=dF hjm
       obtain rfl:j=m:=by omega
       go_wp2
       go_roundw
       case rel=>exact ⟨k+1,iU f p j,by omega,by go_num,hTj,by rw [HF.out,show n-(k+1)=n-k-1 by omega],hbj⟩
       case measure=>simp [intOf];omega
  ·have dl:decide (k<n)=false:=dF hlt
   obtain rfl:k=n:=by omega
   rw [Nat.sub_self] at hEq;have HF:=lH (hEq.trans (show uH b 0 k f=true from rfl));clear hEq;go_wp2;go_ret;exact ⟨by rw [HF.out];rfl,hb⟩
def pu (b:List UInt8) (B:Nat) (e:Ending) (w':World):Prop :=
 if (du b).isSome=true then ∃ s,e=.returned (.tuple #[.pointer (some ⟨s,0,none⟩),.int .i64 0])/\SB w' s b/\B<=s else e=.returned (.tuple #[.pointer none,.int .i64 61])
theorem xz {b:List UInt8} (hl:b.length=243):(du b).isSome=(decide (2+2*(b.getD 0 0).toNat<=243) && (decide (2+2*(b.getD 0 0).toNat<=(b.getD 1 0).toNat/\(b.getD 1 0).toNat<=243) && uH b (b.getD 0 0).toNat 0 (fun _=>false))):=by
 unfold du
 split
 ·rename_i h;rw [dT h.2.1,dT ⟨h.2.2.1,h.2.2.2.1⟩,h.2.2.2.2];rfl
 ·rename_i h
  symm
  show _=false;rw [Bool.eq_false_iff];intro h9;simp only [Bool.and_eq_true,decide_eq_true_eq] at h9;exact h ⟨hl,h9.1,h9.2.1.1,h9.2.1.2,h9.2.2⟩
theorem mP {B:Nat} (a:Addr) (c:Nat) (b:List UInt8) (w:World) (hB:B<=w.heap.size) (hr:Reads w B 1 (some a) b.length (bl b)) (hl:b.length=243) :
 Calls Tryz.prog 110 #[.slice (some a) 243 c] w fun e w'=>pu b w.heap.size e w'/\Below w.heap.size w w':=by
 obtain ⟨w1,hw1⟩:∃ w1,w1=w.alloc (.cells Tryz.zeroCells254 254):=⟨_,rfl⟩
 have hb1:Below w.heap.size w w1:=by rw [hw1];exact (bR _ w).alloc (nR _) _
 have hz:(bl (zB 243)).toArray=Tryz.zeroCells254:=by kernel_rfl
 have hK1:aa w1 w.heap.size 254 (bl (zB 243)).toArray:=by rw [hw1,hz];exact aa.new w 254 Tryz.zeroCells254
 have hr1:Reads w1 B 1 (some a) 243 (bl b):=by have:=hr.below (hb1.mono hB);rwa [hl] at this
 have hspl:ip (zB 243) 0 b=b:=by unfold ip;simp [hl,zB]
 have hL:Hid (∀ W s,SB W s b->_):=lH fun W s hW=>cX (w:=W) (s:=s) hW;have hps:=xz hl;have hI:Hid (∀ W s,SB W s b->2+2*(b.getD 0 0).toNat<=243->_):=lH fun W s hW h=>xy (w:=W) (s:=s) hW h;have hn8:(b.getD 0 0).toNat<256:=(b.getD 0 0).toNat_lt;unfold pu;rw [hps]
 obtain ⟨q,HQ⟩:∃ q,Hid ((decide (2+2*(b.getD 0 0).toNat<=(b.getD 1 0).toNat/\(b.getD 1 0).toNat<=243) && uH b (b.getD 0 0).toNat 0 (fun _=>false))=q):=⟨_,lH rfl⟩
 rw [HQ.out] at hI ⊢
 obtain ⟨n,HN⟩:∃ k,Hid ((b.getD 0 0).toNat=k):=⟨_,lH rfl⟩
 rw [HN.out] at hL hI hn8 ⊢;have hD:=fun W=>gp n (by omega) W
 obtain ⟨d,HDD⟩:∃ d,Hid (2+2*n=d):=⟨_,lH rfl⟩
 rw [HDD.out] at hI hD ⊢;have HW1:=lH hw1;have HK1:=lH hK1;clear hw1 hK1 hps hz hr;by_cases c1:d<=243
 ·have d1:decide (243<d)=false:=dF (by omega);rw [dT c1,Bool.true_and]
  cases q with
  | true =>
   simp only [if_true];go_enter Tryz.func110,Tryz.ntmps110
   go_wp2_with (first
    | (rw [<-HW1.out];refine pa rfl _ _ rfl rfl rfl w.heap.size 0 254 (zB 243) b HK1.out rfl hr1 (by omega) (by simp [zB]) hb1 (nR _) ?_;intro w2 hK2 hb2;rw [hspl] at hK2;have hS2:SB w2 w.heap.size b:=⟨hK2,hl⟩;have hL2:=hL.out w2 _ hS2;have hI2:=hI.out w2 _ hS2 c1)
    | (go_at_call 111;refine hL2.mono ?_;rintro e w3 ⟨rfl,h3⟩;have h3:=h3.symm;subst h3)
    | (go_at_call 144;refine (hD _).mono ?_;rintro e w3 ⟨rfl,h3⟩;have h3:=h3.symm;subst h3)
    | (go_at_call 145;refine hI2.mono ?_;rintro e w4 ⟨rfl,hb4⟩))
   go_ret2;exact ⟨⟨_,rfl,hS2.below hb4 hS2.lt,nR _⟩,hb2.trans (hb4.mono hb2.size)⟩
  | false =>
   simp only [Bool.false_eq_true,if_false];go_enter Tryz.func110,Tryz.ntmps110
   go_wp2_with (first
    | (rw [<-HW1.out];refine pa rfl _ _ rfl rfl rfl w.heap.size 0 254 (zB 243) b HK1.out rfl hr1 (by omega) (by simp [zB]) hb1 (nR _) ?_;intro w2 hK2 hb2;rw [hspl] at hK2;have hS2:SB w2 w.heap.size b:=⟨hK2,hl⟩;have hL2:=hL.out w2 _ hS2;have hI2:=hI.out w2 _ hS2 c1)
    | (go_at_call 111;refine hL2.mono ?_;rintro e w3 ⟨rfl,h3⟩;have h3:=h3.symm;subst h3)
    | (go_at_call 144;refine (hD _).mono ?_;rintro e w3 ⟨rfl,h3⟩;have h3:=h3.symm;subst h3)
    | (go_at_call 145;refine hI2.mono ?_;rintro e w4 ⟨rfl,hb4⟩))
   go_ret2;exact ⟨rfl,hb2.trans (hb4.mono hb2.size)⟩
 ·have d1:decide (243<d)=true:=dT (by omega);rw [dF c1,Bool.false_and];simp only [Bool.false_eq_true,if_false];go_enter Tryz.func110,Tryz.ntmps110
  go_wp2_with (first
   | (rw [<-HW1.out];refine pa rfl _ _ rfl rfl rfl w.heap.size 0 254 (zB 243) b HK1.out rfl hr1 (by omega) (by simp [zB]) hb1 (nR _) ?_;intro w2 hK2 hb2;rw [hspl] at hK2;have hS2:SB w2 w.heap.size b:=⟨hK2,hl⟩;have hL2:=hL.out w2 _ hS2)
   | (go_at_call 111;refine hL2.mono ?_;rintro e w3 ⟨rfl,h3⟩;have h3:=h3.symm;subst h3)
   | (go_at_call 144;refine (hD _).mono ?_;rintro e w3 ⟨rfl,h3⟩;have h3:=h3.symm;subst h3))
  go_ret2;exact ⟨rfl,hb2⟩
theorem vk {W:World} {base base' e s n:Nat} {v:Value} {xs:List Value} (h:W.ownsRow base e s v n xs) (hb:base'<=base):W.ownsRow base' e s v n xs :=
 ⟨h.1,h.2.imp id fun ⟨g,cap,cur,e1,e2,r⟩=>⟨g,cap,cur,e1,nT hb e2,r⟩⟩
theorem SB.reads {w:World} {s:Nat} {b:List UInt8} (h:SB w s b) {p m:Nat} (hp:p+m<=243):Reads w w.heap.size 1 (some (if 243=p then ⟨s,0,none⟩ else ⟨s,p,none⟩)) m (bl ((b.drop p).take m)):=by
 have hl:((b.drop p).take m).length=m:=by rw [lK,lD,h.2];omega
 refine ⟨by rw [aF,hl,Nat.mul_one],fun h0=>?_⟩;rw [if_neg (by omega)];refine ⟨_,rfl,h.lt,fun j u hu=>?_⟩
 have hj:j<m:=by
  rcases Nat.lt_or_ge j m with h9 | h9
  ·exact h9
  ·rw [List.getElem?_eq_none (by rw [aF,hl];omega)] at hu;cases hu
 rw [vj,h.cell (by omega),<-hu];unfold bl;rw [List.getElem?_map,List.getElem?_take,if_pos hj,List.getElem?_drop,gE (show p+j<b.length by rw [h.2];omega),List.getD_eq_getElem?_getD,gE (show p+j<b.length by rw [h.2];omega)];rfl
theorem rW {w:World} {s:Nat} {b:List UInt8} (hS:SB w s b) (i:Nat) (hi:i<(b.getD 0 0).toNat) (h2:2+2*(b.getD 0 0).toNat<=243) (h3:qY b i+ow b i<=243) :
 Calls Tryz.prog 112 #[.pointer (some ⟨s,0,none⟩),.int .i64 i] w fun e w'=>∃ A c,e=.returned (.slice A (cellS b i).length c)/\w'.ownsRow w.heap.size 5 1 (.slice A (cellS b i).length c) (cellS b i).length (bl (cellS b i))/\Below w.heap.size w w':=by
 have hL:=cX hS;have hP:=jE hS i (by omega)
 have hlen:(cellS b i).length=ow b i:=by unfold cellS;rw [lK,lD,hS.2];omega
 rw [hlen];unfold cellS
 obtain ⟨n,HN⟩:∃ k,Hid ((b.getD 0 0).toNat=k):=⟨_,lH rfl⟩
 obtain ⟨p,HP⟩:∃ k,Hid (qY b i=k):=⟨_,lH rfl⟩
 obtain ⟨m,HM⟩:∃ k,Hid (ow b i=k):=⟨_,lH rfl⟩
 rw [HN.out] at hL hi h2;rw [HP.out] at hP h3 ⊢;rw [HM.out] at hP h3 ⊢;have d1:decide (n<=i)=false:=dF (by omega)
 have a1:IntKind.i64.wrap ((p:Int)+(m:Int))=(p:Int)+(m:Int):=by rw [IntKind.wrap_i64];omega
 have b1:(0:Int)<=(p:Int):=by omega
 have b2:(p:Int)<=(p:Int)+(m:Int):=by omega
 have b3:(p:Int)+(m:Int)<=243:=by omega
 have b4:((p:Int)+(m:Int)).toNat=p+m:=by omega
 have hC:=fun W (hW:SB W s b)=>eI (B:=W.heap.size) (n:=m) (if 243=p then ⟨s,0,none⟩ else ⟨s,p,none⟩) (243-p) _ (gA _) W (hW.reads h3) (nR _) (by omega)
 obtain ⟨r,HR⟩:∃ r,Hid ((b.drop p).take m=r):=⟨_,lH rfl⟩
 rw [HR.out] at hC ⊢;have hsl:=hS.lt;have HS:=lH hS;clear hS;by_cases cp:243=p
 ·simp only [if_pos cp] at hC
  have hm0:m=0:=by omega
  subst hm0;subst cp;go_enter Tryz.func112,Tryz.ntmps112
  go_wp2_with (first
   | (go_at_call 111;refine hL.mono ?_;rintro e w3 ⟨rfl,h3⟩;have h3:=h3.symm;subst h3)
   | (go_at_call 146;refine hP.mono ?_;rintro e w2 ⟨rfl,hb2⟩;have hC2:=hC w2 (HS.out.below hb2 hsl))
   | (go_at_call 79;refine hC2.mono ?_;rintro e w4 ⟨A,c,rfl,ho,hb4⟩))
  go_ret;exact ⟨A,c,rfl,vk ho hb2.size,hb2.trans (hb4.mono hb2.size)⟩
 ·simp only [if_neg cp] at hC;go_enter Tryz.func112,Tryz.ntmps112
  go_wp2_with (first
   | (go_at_call 111;refine hL.mono ?_;rintro e w3 ⟨rfl,h3⟩;have h3:=h3.symm;subst h3)
   | (go_at_call 146;refine hP.mono ?_;rintro e w2 ⟨rfl,hb2⟩;have hC2:=hC w2 (HS.out.below hb2 hsl))
   | (go_at_call 79;refine hC2.mono ?_;rintro e w4 ⟨A,c,rfl,ho,hb4⟩))
  go_ret;exact ⟨A,c,rfl,vk ho hb2.size,hb2.trans (hb4.mono hb2.size)⟩
def EG (B:Nat) (w:World) (g:Nat) (r:List UInt8) (n:Nat) (e:Ending) (w':World):Prop:=∃ A1 A2 c2,e=.returned (.slice A1 (r.take n).length (r.take n).length)/\Reads w B 1 A1 (r.take n).length (bl (r.take n))/\(r.drop n).length<=c2/\Reads w B 1 A2 (r.drop n).length (bl (r.drop n))/\w'=w.setCell ⟨g,0,none⟩ (.slice A2 (r.drop n).length c2)
theorem EH {B:Nat} {w:World} {g:Nat} {A:Option Addr} {c:Nat} {r:List UInt8} (hK:aa w g 23 #[.slice A r.length c]) (hr:Reads w B 1 A r.length (bl r)) (hc:r.length<=c) (hl:r.length<=1000) (n:Nat) (hn:n<=100000) :
 Calls Tryz.prog 170 #[.int .i64 n,.pointer (some ⟨g,0,none⟩)] w fun e w'=>EG B w g r n e w':=by
 have hcell:w.cell? ⟨g,0,none⟩=some (.slice A r.length c):=hK.cell 0;have hf:=hK.frozen 0;have HR:=lH hr;clear hr
 cases A with
 | none =>
  have h0:r=[]:=by
   rcases Nat.eq_zero_or_pos r.length with h9 | h9
   ·exact List.length_eq_zero_iff.1 h9
   ·obtain ⟨ad,e,_⟩:=HR.out.2 h9;cases e
  subst h0;by_cases hn0:n=0
  ·subst hn0;go_enter Tryz.func170,Tryz.ntmps170;go_wp2;go_ret;exact ⟨none,none,c,by rw [List.take_nil];rfl,by rw [List.take_nil];exact Reads.none_,by rw [List.drop_nil];exact zL _,by rw [List.drop_nil];exact Reads.none_,by rw [List.drop_nil];rfl⟩
  ·have n1:¬ (n:Int)<0:=by omega
   have n2:¬ (n:Int)<=0:=by omega
   have n3:min (n:Int) 0=0:=by omega
   have n4:(0:Int)<(n:Int):=by omega
   go_enter Tryz.func170,Tryz.ntmps170;go_wp2
   all_goals
    go_ret;exact ⟨none,none,c,by rw [List.take_nil];rfl,by rw [List.take_nil];exact Reads.none_,by rw [List.drop_nil];exact zL _,by rw [List.drop_nil];exact Reads.none_,by rw [List.drop_nil];rfl⟩
 | some a =>
  by_cases c1:n<r.length
  ·have e1:(r.take n).length=n:=by rw [lK];omega
   have e2:(r.drop n).length=r.length-n:=lD
   have n1:¬ (r.length:Int)<(n:Int):=by omega
   have n2:(n:Int)<=(r.length:Int):=by omega
   have n3:min (n:Int) (r.length:Int)=(n:Int):=by omega
   have n4:(n:Int)<(r.length:Int):=by omega
   have n5:(0:Int)<=(n:Int):=by omega
   have n6:(n:Int)<=(c:Int):=by omega
   have n7:¬ c=n:=by omega
   have n8:¬ c-n=0:=by omega
   have n9:(r.length:Int)<=(c:Int):=by omega
   go_enter Tryz.func170,Tryz.ntmps170;go_wp2;go_ret;unfold EG;rw [e1,e2];exact ⟨some a,some (a.add n),c-n,rfl,by have:=bF HR.out (n:=n) (by omega);exact this,by omega,bX (m:=n) (n:=r.length-n) HR.out (by omega),rfl⟩
  ·have e1:(r.take n).length=r.length:=by rw [lK];omega
   have e2:(r.drop n).length=0:=by rw [lD];omega
   have e3:r.take n=r:=List.take_of_length_le (by omega)
   have n2:(r.length:Int)<=(n:Int):=by omega
   have n3:min (n:Int) (r.length:Int)=(r.length:Int):=by omega
   have n4:¬ (n:Int)<(r.length:Int):=by omega
   have n6:(r.length:Int)<=(c:Int):=by omega
   have hz:∀ (A:Option Addr),Reads w B 1 A 0 (bl (r.drop n)):=fun A=>⟨by rw [aF,e2],fun h=>absurd h (Nat.lt_irrefl 0)⟩
   by_cases hnr:n=r.length
   ·subst hnr;go_enter Tryz.func170,Tryz.ntmps170;go_wp2
    all_goals
     go_ret;unfold EG;rw [e1,e2,e3];exact ⟨some a,_,_,rfl,HR.out,zL _,hz _,rfl⟩
   ·have n5:¬ (n:Int)<=(r.length:Int):=by omega
    have n7:(r.length:Int)<(n:Int):=by omega
    go_enter Tryz.func170,Tryz.ntmps170;go_wp2
    all_goals
     go_ret;unfold EG;rw [e1,e2,e3];exact ⟨some a,_,_,rfl,HR.out,zL _,hz _,rfl⟩
def px (g:Nat):Value:=.func (.func 170) #[] #[.pointer (some ⟨g,0,none⟩)]
theorem ee (A:Option Addr) (n c:Nat) (w:World):Calls Tryz.prog 154 #[.slice A n c] w fun e w'=>e=.returned (px w.heap.size)/\w'=w.alloc (.cells #[.slice A n c] 23):=by
 go_enter Tryz.func154,Tryz.ntmps154;go_wp2;go_ret;exact ⟨rfl,rfl⟩
theorem py {W:World} {base n size:Nat} {e:TypeId} {A:Option Addr} {c:Nat} {xs:List Value} (h:W.ownsRow base e size (.slice A n c) n xs) {p:Addr} {u:Value} (hp:∀ ad,A=some ad->ad.block≠p.block):(W.setCell p u).ownsRow base e size (.slice A n c) n xs:=by
 refine ⟨h.1,h.2.imp id ?_⟩;rintro ⟨g,cap,cur,e1,e2,e3,r⟩;simp only [Value.slice.injEq] at e1;exact ⟨g,cap,cur,by simpa using e1,e2,(Below.heap_setCell W p u g (hp _ e1.1)).trans e3,r⟩
theorem fB {W W':World} {base n size:Nat} {e:TypeId} {A:Option Addr} {c:Nat} {xs:List Value} (h:W.ownsRow base e size (.slice A n c) n xs) (hb:∀ ad,A=some ad->W'.heap[ad.block]?=W.heap[ad.block]?):W'.ownsRow base e size (.slice A n c) n xs:=by
 refine ⟨h.1,h.2.imp id ?_⟩;rintro ⟨g,cap,cur,e1,e2,e3,r⟩;simp only [Value.slice.injEq] at e1;exact ⟨g,cap,cur,by simpa using e1,e2,(hb _ e1.1).trans e3,r⟩
theorem eO {W W':World} {base n size:Nat} {e:TypeId} {A:Option Addr} {c:Nat} {xs:List Value} (h:W.ownsRow base e size (.slice A n c) n xs) (hb:Below W.heap.size W W'):W'.ownsRow base e size (.slice A n c) n xs:=by
 refine ⟨h.1,h.2.imp id ?_⟩;rintro ⟨g,cap,cur,e1,e2,e3,r⟩;exact ⟨g,cap,cur,e1,e2,(hb.block g (aS.1 e3).1).trans e3,r⟩
def bK (w:World) (B:Nat) (A:Option Addr) (c:Nat) (b:List UInt8):Prop:=w.ownsRow B 5 1 (.slice A b.length c) b.length (bl b)
theorem bK.nil (w:World) (B c:Nat):bK w B none 0 []:=World.ownsRow_nil _ _ _ _
theorem bK.rd {w:World} {B:Nat} {A:Option Addr} {c:Nat} {b:List UInt8} (h:bK w B A c b):Reads w w.heap.size 1 A b.length (bl b):=Reads.of_own h
theorem bK.lo {w:World} {B B':Nat} {A:Option Addr} {c:Nat} {b:List UInt8} (h:bK w B A c b) (hB:B'<=B):bK w B' A c b:=cj h hB
theorem bK.ge {w:World} {B:Nat} {A:Option Addr} {c:Nat} {b:List UInt8} (h:bK w B A c b):∀ ad,A=some ad->B<=ad.block:=jb h
theorem bK.below {w w':World} {B:Nat} {A:Option Addr} {c:Nat} {b:List UInt8} (h:bK w B A c b) (hb:Below w.heap.size w w'):bK w' B A c b:=eO h hb
theorem bK.fr {w w':World} {B:Nat} {A:Option Addr} {c:Nat} {b:List UInt8} {X:Nat->Prop} (h:bK w B A c b) (hf:Fr X w w') (hX:∀ k,X k->k<B):bK w' B A c b:=by
 refine ⟨h.1,h.2.imp id ?_⟩;rintro ⟨g,cap,cur,e1,e2,e3,r⟩;exact ⟨g,cap,cur,e1,e2,(hf.block g (aS.1 e3).1 (fun hx=>by have:=hX g hx;omega)).trans e3,r⟩
theorem cu {B:Nat} (A:Option Addr) (c:Nat) (b:List UInt8) (w:World) (hr:Reads w B 1 A b.length (bl b)) (hB:B<=w.heap.size) (hl:b.length<=4000000) :
 Calls Tryz.prog 79 #[.slice A b.length c] w fun e w'=>∃ A' c',e=.returned (.slice A' b.length c')/\w'.ownsRow w.heap.size 5 1 (.slice A' b.length c') b.length (bl b)/\Below w.heap.size w w':=by
 cases A with
 | some a=>exact eI a c (bl b) (gA _) w hr hB hl
 | none =>
  have h0:b=[]:=by
   rcases Nat.eq_zero_or_pos b.length with h9 | h9
   ·exact List.length_eq_zero_iff.1 h9
   ·obtain ⟨ad,e,_⟩:=hr.2 h9;cases e
  subst h0
  have hnil:∀ W:World,(binOp .eql 23 (.slice none 0 c) (.slice none 0 0)).run Tryz.prog W=.ok (.bool true) W:=fun W=>(by first | exact Lib.run_eql_slice_nil W 23 5 _ _ _ _ _ Tryz.underlying23 | exact Lib.run_eql_slice_nil W 23 5 _ _ _ _ Tryz.underlying23)
  go_enter Tryz.func79,Tryz.ntmps79;go_wp2;go_ret;exact ⟨_,_,rfl,World.ownsRow_nil _ _ _ _,bR _ _⟩
theorem bC {B:Nat} {w:World} {g:Nat} {A:Option Addr} {c:Nat} {r:List UInt8} (hK:aa w g 23 #[.slice A r.length c]) (hr:Reads w B 1 A r.length (bl r)) (hc:r.length<=c) (hl:r.length<=1000) (n:Nat) (hn:n<=100000) (hB:B<=g) :
 Calls Tryz.prog 170 #[.int .i64 n,.pointer (some ⟨g,0,none⟩)] w fun e w'=>∃ p q A1 A2 c2,Hid (p=r.take n/\q=r.drop n)/\e=.returned (.slice A1 p.length p.length)/\Reads w' B 1 A1 p.length (bl p)/\q.length<=c2/\Reads w' B 1 A2 q.length (bl q)/\aa w' g 23 #[.slice A2 q.length c2]/\Below g w w'/\Fr (fun k=>k=g) w w':=by
 refine (EH hK hr hc hl n hn).mono ?_;rintro e w' ⟨A1,A2,c2,rfl,h1,h2,h3,rfl⟩;have hb:Below g w (w.setCell ⟨g,0,none⟩ (.slice A2 (r.drop n).length c2)):=(bR g w).setCell (p:=⟨g,0,none⟩) (nR _) _;exact ⟨r.take n,r.drop n,A1,A2,c2,lH ⟨rfl,rfl⟩,rfl,h1.below (hb.mono hB),h2,h3.below (hb.mono hB),hK.set_ 0 _,hb,(Fr.refl (fun k=>k=g) w).setCell (p:=⟨g,0,none⟩) (.inr rfl) _⟩
def kw (g:Option PC) (B:Nat) (e:Ending) (w':World):Prop:=match g with
 | none=>e=.returned (.tuple #[cellV none 0 0 0 none 0 0 0 0,.int .i64 70])
 | some p=>∃ y:CX,y.c=p/\e=.returned (.tuple #[y.val,.int .i64 0])/\bK w' B y.ka y.kc p.key/\bK w' B y.va y.vc p.val
theorem tr {B:Nat} (A:Option Addr) (c:Nat) (b:List UInt8) (w:World) (hB:B<=w.heap.size) (hr:Reads w B 1 A b.length (bl b)) (hc:b.length<=c) (hl:b.length<=1000) :
 Calls Tryz.prog 123 #[.slice A b.length c] w fun e w'=>kw (dY b) w.heap.size e w'/\Below w.heap.size w w':=by
 obtain ⟨w0,hw0⟩:∃ w0,w0=w.alloc (.cells #[.slice none 0 0,.int .i64 0,.slice none 0 0,.int .u32 0,.int .u32 0] 117):=⟨_,rfl⟩
 have hb0:Below w.heap.size w w0:=by rw [hw0];exact (bR _ w).alloc (nR _) _
 have hZ0:aa w0 w.heap.size 117 #[.slice none 0 0,.int .i64 0,.slice none 0 0,.int .u32 0,.int .u32 0]:=by rw [hw0];exact aa.new _ _ _
 have hCu:=ee A b.length c w0
 obtain ⟨w1,hw1⟩:∃ w1,w1=w0.alloc (.cells #[.slice A b.length c] 23):=⟨_,rfl⟩
 have hb1:Below w0.heap.size w0 w1:=by rw [hw1];exact (bR _ w0).alloc (nR _) _
 have hK1:aa w1 w0.heap.size 23 #[.slice A b.length c]:=by rw [hw1];exact aa.new _ _ _
 rw [<-hw1] at hCu
 obtain ⟨g,HG⟩:∃ g,Hid (w0.heap.size=g):=⟨_,lH rfl⟩
 rw [HG.out] at hCu hK1;have hb01:Below w.heap.size w w1:=hb0.trans (hb1.mono hb0.size)
 have hg0:w.heap.size<=g:=by have:=HG.out;have:=hb0.size;omega
 have hBg:B<=g:=nT hB hg0;have hC1:=bC hK1 (hr.below (hb01.mono hB)) hc hl 4 (by omega) hBg;unfold px at hCu;have HW0:=lH hw0;clear hw0 hw1
 cases hd:b.drop 4 with
 | nil =>
  go_enter Tryz.func123,Tryz.ntmps123
  go_wp2_with (first
   | (go_at_call 77;refine (hN _ hkR).mono ?_;rintro e w5 ⟨rfl,h5⟩;subst h5)
   | (go_at_call 170;refine hC2.mono ?_;rintro e w4 ⟨nb,r1,A3,A4,c4,HP2,rfl,hnR,hc4,hrR,hK4,hb4,hf4⟩;have hkR:=hk3.below (hb4.mono hBg);have hk8:kb.length<=4:=(by rw [HP1.out.1,lK];omega);have hN:=fun W (hW:Reads W B 1 A1 kb.length (bl kb))=>dB A1 kb.length kb W hW (by omega);have hlt:aC kb<4294967296:=(lT (bW kb) (nT (Nat.pow_le_pow_right (by decide) hk8) (by decide)));obtain ⟨kd,HKD⟩:∃ k,Hid (aC kb=k):=⟨_,lH rfl⟩;rw [HKD.out] at hN hlt;have cv:IntKind.u32.wrap (kd:Int)=(kd:Int):=(by rw [IntKind.wrap_u32];omega);clear hC2 hK3 hk3 hr2;have hn4:((nb.length:Int)==1)=false:=(by have e:=HP2.out.1;rw [HP1.out.2,hd] at e;rw [e];rfl))
   | (go_at_call 170;refine hC1.mono ?_;rintro e w3 ⟨kb,r0,A1,A2,c2,HP1,rfl,hk3,hc2,hr2,hK3,hb3,hf3⟩;have hC2:=bC hK3 hr2 hc2 (by rw [HP1.out.2,lD];omega) 1 (by omega) hBg;clear hC1)
   | (rw [<-HW0.out];go_at_call 154;refine hCu.mono ?_;rintro e w2 ⟨rfl,h2⟩;have h2:=h2.symm;subst h2))
  obtain ⟨wf,hwf⟩:∃ w6,w6=(w4.alloc (.cells #[.slice none 0 0,.int .i64 0,.slice none 0 0,.int .u32 0,.int .u32 (kd:Nat)] 117)):=⟨_,rfl⟩
  have hb6:Below w4.heap.size w4 wf:=by rw [hwf];exact (bR _ _).alloc (nR _) _
  have ZF:aa wf w4.heap.size 117 #[.slice none 0 0,.int .i64 0,.slice none 0 0,.int .u32 0,.int .u32 (kd:Nat)]:=by rw [hwf];exact aa.new _ _ _
  rw [<-hwf];clear hwf;have hg4:g<w4.heap.size:=hK4.lt;have hb46:Below w0.heap.size w0 wf:=hb1.trans (((hb3.trans hb4).trans (hb6.mono (Nat.le_of_lt hg4))).mono (by rw [HG.out];exact nR _));have hkf:bK wf (w.heap.size+1) none 0 []:=bK.nil _ _ 0;have hbf:Below w.heap.size w wf:=hb0.trans (hb46.mono hb0.size);have RF:aa wf w.heap.size 117 #[.slice none 0 0,.int .i64 0,.slice none 0 0,.int .u32 0,.int .u32 0]:=hZ0.below hb46 hZ0.lt;have hrf:=hr.below (hbf.mono hB);have hP:=dP false ⟨none,0,none,0,⟨[],0,[],0,kd⟩⟩ wf (nR _) hkf.rd Reads.none_ ⟨Nat.zero_lt_succ _,hlt⟩;unfold CX.val cellV at hP;simp only [cY,Bool.false_eq_true,if_false] at hP;have HIR:Hid (ig b=⟨[],0,[],0,kd⟩):=lH (by unfold ig;rw [hd,<-HP1.out.1,HKD.out])
  have hcoB:iO false ⟨[],0,[],0,kd⟩=dq (ig b):=by rw [HIR.out];rfl
  cases hok:iO false ⟨[],0,[],0,kd⟩ with
  | false =>
   rw [hok] at hP;simp only [Bool.false_eq_true,if_false] at hP
   go_wp2_with (first
    | (go_at_call 122;refine hP.mono ?_;rintro e w9 ⟨A9,n9,c9,rfl,_,hb9⟩;have R9:=RF.below hb9 RF.lt)
    | (refine wpList_load_row rfl 117 (.tmp 7) rfl _ rfl _ _ _ _ ZF Tryz.underlying117 rfl (by kernel_rfl) ?_)
    | (refine wpList_store_row rfl 117 (.tmp 2) (.tmp 44) rfl w.heap.size _ rfl rfl 117 _ R9 (by kernel_rfl) rfl (by simp [Value.oneCell']) ?_))
   refine bodyPost_ret (rT rfl _ _ w.heap.size 117 _ (0,0) _ rfl (setRow_heap _ _ _ _ _ _ R9) Tryz.underlying117 rfl (by kernel_rfl)) rfl ?_
   have hg:dY b=none:=by unfold dY;rw [if_neg];rw [<-hcoB,hok];simp
   rw [hg];have hb10:=hbf.trans (hb9.mono hbf.size);exact ⟨rfl,hb10.trans ((fS _ w.heap.size _).below (B:=w.heap.size) hb10.size (fun k hk=>by omega))⟩
  | true =>
   rw [hok] at hP;simp only [if_true] at hP
   obtain ⟨xb,HXB⟩:∃ x,Hid (cB false ⟨[],0,[],0,kd⟩=x):=⟨_,lH rfl⟩
   rw [HXB.out] at hP;have hE:=fun (W:World) (A9:Option Addr) (c9:Nat) (h:Reads W W.heap.size 1 A9 xb.length (bl xb)) (hb:Below wf.heap.size wf W)=>dI c9 c W h (hrf.below (hb.mono (nT hB hbf.size)))
   obtain ⟨q,HQ⟩:∃ q,Hid (decide (xb=b)=q):=⟨_,lH rfl⟩
   rw [HQ.out] at hE
   have hgI:dY b=if q=true then some ⟨[],0,[],0,kd⟩ else none:=by
    unfold dY;rw [<-hcoB,hok,HIR.out,<-HQ.out,show fI ⟨[],0,[],0,kd⟩=xb from HXB.out];simp
   cases q with
   | false =>
    go_wp2_with (first
     | (go_at_call 122;refine hP.mono ?_;rintro e w9 ⟨A9,n9,c9,rfl,hn9,hb9⟩;obtain ⟨rfl,ho9⟩:=hn9 trivial;have R9:=RF.below hb9 RF.lt;have Z9:=ZF.below hb9 ZF.lt;have hE9:=hE w9 A9 c9 (Reads.of_own ho9) hb9)
     | (go_at_call 81;refine hE9.mono ?_;rintro e w10 ⟨rfl,h10⟩;have h10:=h10.symm;subst h10)
     | (refine wpList_load_row rfl 117 (.tmp 7) rfl _ rfl _ _ _ _ ZF Tryz.underlying117 rfl (by kernel_rfl) ?_)
     | (refine wpList_store_row rfl 117 (.tmp 2) (.tmp 44) rfl w.heap.size _ rfl rfl 117 _ R9 (by kernel_rfl) rfl (by simp [Value.oneCell']) ?_))
    refine bodyPost_ret (rT rfl _ _ w.heap.size 117 _ (0,0) _ rfl (setRow_heap _ _ _ _ _ _ R9) Tryz.underlying117 rfl (by kernel_rfl)) rfl ?_;rw [hgI];have hb10:=hbf.trans (hb9.mono hbf.size);exact ⟨rfl,hb10.trans ((fS _ w.heap.size _).below (B:=w.heap.size) hb10.size (fun k hk=>by omega))⟩
   | true =>
    go_wp2_with (first
     | (go_at_call 122;refine hP.mono ?_;rintro e w9 ⟨A9,n9,c9,rfl,hn9,hb9⟩;obtain ⟨rfl,ho9⟩:=hn9 trivial;have R9:=RF.below hb9 RF.lt;have Z9:=ZF.below hb9 ZF.lt;have hE9:=hE w9 A9 c9 (Reads.of_own ho9) hb9)
     | (go_at_call 81;refine hE9.mono ?_;rintro e w10 ⟨rfl,h10⟩;have h10:=h10.symm;subst h10)
     | (refine wpList_load_row rfl 117 (.tmp 7) rfl _ rfl _ _ _ _ Z9 Tryz.underlying117 rfl (by kernel_rfl) ?_)
     | (refine wpList_load_row rfl 117 (.tmp 7) rfl _ rfl _ _ _ _ ZF Tryz.underlying117 rfl (by kernel_rfl) ?_)
     | (refine wpList_store_row rfl 117 (.tmp 2) (.tmp 45) rfl w.heap.size _ rfl rfl 117 _ R9 (by kernel_rfl) rfl (by simp [Value.oneCell']) ?_))
    refine bodyPost_ret (rT rfl _ _ w.heap.size 117 _ (0,0) _ rfl (setRow_heap _ _ _ _ _ _ R9) Tryz.underlying117 rfl (by kernel_rfl)) rfl ?_;rw [hgI];have hb10:=hbf.trans (hb9.mono hbf.size);exact ⟨⟨⟨none,0,none,0,⟨[],0,[],0,kd⟩⟩,rfl,rfl,((hkf.below hb9).fr (fS _ w.heap.size _) (fun k hk=>by omega)).lo (Nat.le_succ _),bK.nil _ _ 0⟩,hb10.trans ((fS _ w.heap.size _).below (B:=w.heap.size) hb10.size (fun k hk=>by omega))⟩
 | cons n0 rest =>
  have cw8:IntKind.i64.wrap (n0.toNat:Int)=(n0.toNat:Int):=by rw [IntKind.wrap_i64];have:=n0.toNat_lt;omega
  go_enter Tryz.func123,Tryz.ntmps123
  go_wp2_with (first
   | (rw [<-HWF.out];refine wpList_load_row rfl 117 (.tmp 7) rfl _ rfl _ _ _ _ ZF Tryz.underlying117 rfl (by kernel_rfl) ?_)
   | (go_at_call 79;refine hCl.mono ?_;rintro e w8 ⟨A6,c6,rfl,ho8,hb8⟩;have Z8:=HZ7.out.below hb8 HZ7.out.lt;have k80:w8.cell? ⟨w4.heap.size,0,none⟩=some (.slice none 0 0):=Z8.cell 0;have f80:=Z8.frozen 0;obtain ⟨wf,hwf⟩:∃ wf,wf=w8.setCell ⟨w4.heap.size,0,none⟩ (.slice A6 kb2.length c6):=⟨_,rfl⟩;have ZF:aa wf w4.heap.size 117 #[.slice A6 kb2.length c6,.int .i64 0,.slice none 0 0,.int .u32 0,.int .u32 (kd:Nat)]:=(by rw [hwf];exact Z8.set_ 0 _);have hg6:g<w6.heap.size:=(lT hg4 hb6.size);have hbg:Below g w1 wf:=(by rw [hwf];exact (((hb3.trans hb4).trans (hb6.mono (Nat.le_of_lt hg4))).trans (hb7.trans (hb8.mono (Nat.le_of_lt hK7.lt)))).setCell (p:=⟨w4.heap.size,0,none⟩) (Nat.le_of_lt hg4) _);have hkf:bK wf (w.heap.size+1) A6 c6 kb2:=(by have:=cj (B':=w.heap.size+1) (py ho8 (p:=⟨w4.heap.size,0,none⟩) (u:=.slice A6 kb2.length c6) (fun ad e=>by have:=jb ho8 ad e;have:=HZ7.out.lt;show ad.block≠w4.heap.size;omega)) (by have:=HZ7.out.lt;omega);rw [<-hwf] at this;exact this);have HWF:=lH hwf;have HZ8:=lH Z8;clear Z8 hwf)
   | (rw [<-HW6.out];go_at_call 170;refine hC3.mono ?_;rintro e w7 ⟨kb2,r2,A5,A7,c7,HP3,rfl,hk7,hc7,hr7,hK7,hb7,hf7⟩;have HZ7:=lH (HZ6.out.fr hf7 (show ¬ w4.heap.size=g by omega));have hCl:=cu A5 kb2.length kb2 w7 hk7 (nT hBg (Nat.le_of_lt hK7.lt)) (by rw [HP3.out.1,lK,HP2.out.2,HP1.out.2,lD,lD];omega))
   | (go_at_call 77;refine (hN _ hkR).mono ?_;rintro e w5 ⟨rfl,h5⟩;subst h5)
   | (go_at_call 170;refine hC2.mono ?_;rintro e w4 ⟨nb,r1,A3,A4,c4,HP2,rfl,hnR,hc4,hrR,hK4,hb4,hf4⟩;have hkR:=hk3.below (hb4.mono hBg);have hk8:kb.length<=4:=(by rw [HP1.out.1,lK];omega);have hN:=fun W (hW:Reads W B 1 A1 kb.length (bl kb))=>dB A1 kb.length kb W hW (by omega);have hlt:aC kb<4294967296:=(lT (bW kb) (nT (Nat.pow_le_pow_right (by decide) hk8) (by decide)));obtain ⟨kd,HKD⟩:∃ k,Hid (aC kb=k):=⟨_,lH rfl⟩;rw [HKD.out] at hN hlt;have cv:IntKind.u32.wrap (kd:Int)=(kd:Int):=(by rw [IntKind.wrap_u32];omega);clear hC2 hK3 hk3 hr2;have hnb:nb=[n0]:=(by have e:=HP2.out.1;rw [HP1.out.2,hd] at e;exact e);have HNB:=lH hnb;have hn4:((nb.length:Int)==1)=true:=(by rw [hnb];rfl);have i2:0<nb.length:=(by rw [hnb];exact Nat.zero_lt_one);have i1:(0:Int)<(nb.length:Int):=(by omega);obtain ⟨a3,rfl,ha3,hc3⟩:=hnR.2 i2;have c3:=hc3 0 (.int .u8 (n0.toNat:Nat)) (by rw [hnb];rfl);rw [show a3.add 0=a3 by unfold Addr.add;rw [if_pos rfl]] at c3;clear hc3 hnb;obtain ⟨w6,hw6⟩:∃ w6,w6=w4.alloc (.cells #[.slice none 0 0,.int .i64 0,.slice none 0 0,.int .u32 0,.int .u32 (kd:Nat)] 117):=⟨_,rfl⟩;have hb6:Below w4.heap.size w4 w6:=(by rw [hw6];exact (bR _ _).alloc (nR _) _);have Z6:aa w6 w4.heap.size 117 #[.slice none 0 0,.int .i64 0,.slice none 0 0,.int .u32 0,.int .u32 (kd:Nat)]:=(by rw [hw6];exact aa.new _ _ _);have hg4:g<w4.heap.size:=hK4.lt;have c36:(w4.alloc (.cells #[.slice none 0 0,.int .i64 0,.slice none 0 0,.int .u32 0,.int .u32 (kd:Nat)] 117)).cell? a3=some (.int .u8 (n0.toNat:Nat)):=(by rw [<-hw6];exact (hb6.cell (lT ha3 (nT hBg (Nat.le_of_lt hg4)))).trans c3);have hK6:=hK4.below hb6 hg4;have hr6:=hrR.below (hb6.mono (nT hBg (Nat.le_of_lt hg4)));have hC3:=bC hK6 hr6 hc4 (by rw [HP2.out.2,HP1.out.2,lD,lD];omega) n0.toNat (by have:=n0.toNat_lt;omega) hBg;have HW6:=lH hw6;have HZ6:=lH Z6;clear hw6 Z6 c3)
   | (go_at_call 170;refine hC1.mono ?_;rintro e w3 ⟨kb,r0,A1,A2,c2,HP1,rfl,hk3,hc2,hr2,hK3,hb3,hf3⟩;have hC2:=bC hK3 hr2 hc2 (by rw [HP1.out.2,lD];omega) 1 (by omega) hBg;clear hC1)
   | (rw [<-HW0.out];go_at_call 154;refine hCu.mono ?_;rintro e w2 ⟨rfl,h2⟩;have h2:=h2.symm;subst h2))
  have hb0g:Below w0.heap.size w0 wf:=hb1.trans (hbg.mono (by rw [HG.out];exact nR _));have hbf:Below w.heap.size w wf:=hb0.trans (hb0g.mono hb0.size);have RF:aa wf w.heap.size 117 #[.slice none 0 0,.int .i64 0,.slice none 0 0,.int .u32 0,.int .u32 0]:=hZ0.below hb0g hZ0.lt;have hrf:=hr.below (hbf.mono hB);have hP:=dP false ⟨A6,c6,none,0,⟨kb2,0,[],0,kd⟩⟩ wf (nR _) hkf.rd Reads.none_ ⟨Nat.zero_lt_succ _,hlt⟩;unfold CX.val cellV at hP;simp only [cY,Bool.false_eq_true,if_false] at hP;have HIR:Hid (ig b=⟨kb2,0,[],0,kd⟩):=lH (by unfold ig;rw [hd,<-HP1.out.1,HKD.out];congr 1;rw [HP3.out.1,HP2.out.2,HP1.out.2,hd];rfl)
  have hcoB:iO false ⟨kb2,0,[],0,kd⟩=dq (ig b):=by rw [HIR.out];rfl
  cases hok:iO false ⟨kb2,0,[],0,kd⟩ with
  | false =>
   rw [hok] at hP;simp only [Bool.false_eq_true,if_false] at hP
   go_wp2_with (first
    | (go_at_call 122;refine hP.mono ?_;rintro e w9 ⟨A9,n9,c9,rfl,_,hb9⟩;have R9:=RF.below hb9 RF.lt)
    | (refine wpList_load_row rfl 117 (.tmp 7) rfl _ rfl _ _ _ _ ZF Tryz.underlying117 rfl (by kernel_rfl) ?_)
    | (refine wpList_store_row rfl 117 (.tmp 2) (.tmp 44) rfl w.heap.size _ rfl rfl 117 _ R9 (by kernel_rfl) rfl (by simp [Value.oneCell']) ?_))
   refine bodyPost_ret (rT rfl _ _ w.heap.size 117 _ (0,0) _ rfl (setRow_heap _ _ _ _ _ _ R9) Tryz.underlying117 rfl (by kernel_rfl)) rfl ?_
   have hg:dY b=none:=by unfold dY;rw [if_neg];rw [<-hcoB,hok];simp
   rw [hg];have hb10:=hbf.trans (hb9.mono hbf.size);exact ⟨rfl,hb10.trans ((fS _ w.heap.size _).below (B:=w.heap.size) hb10.size (fun k hk=>by omega))⟩
  | true =>
   rw [hok] at hP;simp only [if_true] at hP
   obtain ⟨xb,HXB⟩:∃ x,Hid (cB false ⟨kb2,0,[],0,kd⟩=x):=⟨_,lH rfl⟩
   rw [HXB.out] at hP;have hE:=fun (W:World) (A9:Option Addr) (c9:Nat) (h:Reads W W.heap.size 1 A9 xb.length (bl xb)) (hb:Below wf.heap.size wf W)=>dI c9 c W h (hrf.below (hb.mono (nT hB hbf.size)))
   obtain ⟨q,HQ⟩:∃ q,Hid (decide (xb=b)=q):=⟨_,lH rfl⟩
   rw [HQ.out] at hE
   have hgI:dY b=if q=true then some ⟨kb2,0,[],0,kd⟩ else none:=by
    unfold dY;rw [<-hcoB,hok,HIR.out,<-HQ.out,show fI ⟨kb2,0,[],0,kd⟩=xb from HXB.out];simp
   cases q with
   | false =>
    go_wp2_with (first
     | (go_at_call 122;refine hP.mono ?_;rintro e w9 ⟨A9,n9,c9,rfl,hn9,hb9⟩;obtain ⟨rfl,ho9⟩:=hn9 trivial;have R9:=RF.below hb9 RF.lt;have Z9:=ZF.below hb9 ZF.lt;have hE9:=hE w9 A9 c9 (Reads.of_own ho9) hb9)
     | (go_at_call 81;refine hE9.mono ?_;rintro e w10 ⟨rfl,h10⟩;have h10:=h10.symm;subst h10)
     | (refine wpList_load_row rfl 117 (.tmp 7) rfl _ rfl _ _ _ _ ZF Tryz.underlying117 rfl (by kernel_rfl) ?_)
     | (refine wpList_store_row rfl 117 (.tmp 2) (.tmp 44) rfl w.heap.size _ rfl rfl 117 _ R9 (by kernel_rfl) rfl (by simp [Value.oneCell']) ?_))
    refine bodyPost_ret (rT rfl _ _ w.heap.size 117 _ (0,0) _ rfl (setRow_heap _ _ _ _ _ _ R9) Tryz.underlying117 rfl (by kernel_rfl)) rfl ?_;rw [hgI];have hb10:=hbf.trans (hb9.mono hbf.size);exact ⟨rfl,hb10.trans ((fS _ w.heap.size _).below (B:=w.heap.size) hb10.size (fun k hk=>by omega))⟩
   | true =>
    go_wp2_with (first
     | (go_at_call 122;refine hP.mono ?_;rintro e w9 ⟨A9,n9,c9,rfl,hn9,hb9⟩;obtain ⟨rfl,ho9⟩:=hn9 trivial;have R9:=RF.below hb9 RF.lt;have Z9:=ZF.below hb9 ZF.lt;have hE9:=hE w9 A9 c9 (Reads.of_own ho9) hb9)
     | (go_at_call 81;refine hE9.mono ?_;rintro e w10 ⟨rfl,h10⟩;have h10:=h10.symm;subst h10)
     | (refine wpList_load_row rfl 117 (.tmp 7) rfl _ rfl _ _ _ _ Z9 Tryz.underlying117 rfl (by kernel_rfl) ?_)
     | (refine wpList_load_row rfl 117 (.tmp 7) rfl _ rfl _ _ _ _ ZF Tryz.underlying117 rfl (by kernel_rfl) ?_)
     | (refine wpList_store_row rfl 117 (.tmp 2) (.tmp 45) rfl w.heap.size _ rfl rfl 117 _ R9 (by kernel_rfl) rfl (by simp [Value.oneCell']) ?_))
    refine bodyPost_ret (rT rfl _ _ w.heap.size 117 _ (0,0) _ rfl (setRow_heap _ _ _ _ _ _ R9) Tryz.underlying117 rfl (by kernel_rfl)) rfl ?_;rw [hgI];have hb10:=hbf.trans (hb9.mono hbf.size);exact ⟨⟨⟨A6,c6,none,0,⟨kb2,0,[],0,kd⟩⟩,rfl,rfl,((hkf.below hb9).fr (fS _ w.heap.size _) (fun k hk=>by omega)).lo (Nat.le_succ _),bK.nil _ _ 0⟩,hb10.trans ((fS _ w.heap.size _).below (B:=w.heap.size) hb10.size (fun k hk=>by omega))⟩
def low:List UInt8->Nat->Option Nat
 | [],_=>none
 | c::l,i=>if c.toNat<128 then some i else low l (i+1)
def iw (l:List UInt8):Int:=match low l 0 with
 | some i=>i
 | none=>-1
theorem pz:∀ {l:List UInt8} {i k:Nat},(∀ j y,j<k->l[j]?=some y->¬ y.toNat<128)->k<=l.length->low l i=low (l.drop k) (i+k)
 | l,i,0,_,_=>by simp
 | [],i,k+1,_,hk=>by simp at hk
 | x::l,i,k+1,h,hk=>by
  have h0:low (x::l) i=low l (i+1):=if_neg (h 0 x (by omega) rfl);rw [h0,List.drop_succ_cons,pz (i:=i+1) (k:=k) (fun j y hj hy=>h (j+1) y (by omega) (by simpa using hy)) (by simpa using hk),show i+1+k=i+(k+1) by omega]
theorem EI {k:Nat} {l:List UInt8} {y:UInt8} (h:∀ j y,j<k->l[j]?=some y->¬ y.toNat<128) (hy:l[k]?=some y) (hq:y.toNat<128):iw l=k:=by
 have hk:=(lS.1 hy).1
 have e:l.drop k=y::l.drop (k+1):=by
  rw [<-(lS.1 hy).2,List.getElem_cons_drop]
 unfold iw;rw [pz (i:=0) h (Nat.le_of_lt hk),e];unfold low;rw [if_pos hq];simp
theorem CI {l:List UInt8} (h:∀ j y,j<l.length->l[j]?=some y->¬ y.toNat<128):iw l=-1:=by
 unfold iw;rw [pz (i:=0) h (nR _),List.drop_length];rfl
theorem CJ (c:UInt8) (w:World):Calls Tryz.prog 172 #[.int .u8 c.toNat] w fun e w'=>e=.returned (.bool (decide (c.toNat<128)))/\w=w':=by
 have e:decide ((c.toNat:Int)<128)=decide (c.toNat<128):=by
  by_cases h:c.toNat<128
  ·rw [dT h,dT (by omega)]
  ·rw [dF h,dF (by omega)]
 go_enter Tryz.func172,Tryz.ntmps172;go_wp2;go_ret
 first
  | exact ⟨rfl,rfl⟩
  | exact ⟨by rw [<-e],rfl⟩
theorem bZ {B:Nat} {w:World} (A:Option Addr) (c:Nat) (l:List UInt8) (hr:Reads w B 1 A l.length (bl l)) (hB:B<=w.heap.size) (hl:l.length<=1000) :
 Calls Tryz.prog 171 #[.slice A l.length c,.func (.func 172) #[] #[]] w fun e w'=>e=.returned (.int .i64 (iw l))/\Below w.heap.size w w':=by
 go_enter Tryz.func171,Tryz.ntmps171;go_wp2
 go_loopw [8] (fun i wr=>(∃ k,k<=l.length/\i=.int .i64 k/\(∀ j y,j<k->l[j]?=some y->¬ y.toNat<128))/\Below w.heap.size w wr) (fun i _=>l.length-(intOf i).toNat)
 case atStart=>exact ⟨⟨0,zL _,rfl,fun j y hj=>by omega⟩,bR _ _⟩
 case round =>
  obtain ⟨⟨k,hk,rfl,hno⟩,hB1⟩:=hrel;have HNO:=lH hno;clear hno
  obtain ⟨wo,rfl⟩:∃ wo,wo=wr:=⟨wr,rfl⟩
  by_cases hlt:k<l.length
  ·have d1:decide (k<l.length)=true:=by simpa using hlt
   obtain ⟨y,hy⟩:∃ y,l[k]?=some y:=⟨_,gE hlt⟩
   obtain ⟨ad,u,rfl,_,hu,hcs⟩:=(hr.below (hB1.mono hB)).at_ hlt;unfold bl at hu;rw [List.getElem?_map,hy] at hu
   cases hu
   have i0:(0:Int)<=(k:Int):=by omega
   have i1:(k:Int)<(l.length:Int):=by omega
   have hI:=CJ y;by_cases hq:y.toNat<128
   ·rw [dT hq] at hI;have HQ:=lH (aI hq hy);clear hq hy
    go_wp2_with (go_at_call 172;refine (hI _).mono ?_;rintro e w9 ⟨rfl,rfl⟩)
    go_ret;exact ⟨by rw [EI HNO.out HQ.out.2 HQ.out.1];rfl,by first | exact hB1.drew | exact hB1⟩
   ·rw [dF hq] at hI;have HQ:=lH (aI hq hy);clear hq hy
    go_wp2_with (go_at_call 172;refine (hI _).mono ?_;rintro e w9 ⟨rfl,rfl⟩)
    go_roundw
    case rel=>exact ⟨⟨k+1,by omega,by go_num,fun j z hj hz=>by
     by_cases e:j=k
     ·subst e;rw [HQ.out.2] at hz;cases hz;exact HQ.out.1
     ·exact HNO.out j z (by omega) hz⟩,by first | exact hB1.drew | exact hB1⟩
    case measure=>simp [intOf];omega
  ·have d1:decide (k<l.length)=false:=by simpa using hlt
   have hk':k=l.length:=by omega
   have HK:=lH hk';clear hk';go_wp2;go_ret;exact ⟨by rw [CI (fun j y hj hy=>HNO.out j y (by rw [HK.out];exact hj) hy)];rfl,hB1⟩
def Gc:Prop:=∀ {B:Nat} (A:Option Addr) (cc:Nat) (b:List UInt8) (w:World),B<=w.heap.size->Reads w B 1 A b.length (bl b)->b.length<=3000000->b.length<=cc ->
 Calls Tryz.prog 155 #[.slice A b.length cc] w fun e w'=>e=.returned (.tuple #[.int .u64 (bJ b).1,.int .i64 (bJ b).2.1,.int .i64 (bJ b).2.2])/\Below w.heap.size w w'
def cZ:List UInt8->Nat
 | []=>0
 | c::r=>cZ r*128+c.toNat % 128
theorem mQ:∀ (l:List UInt8) (i j:Nat),low l i=some j->i<=j/\j<i+l.length
 | [],i,j,h=>by simp [low] at h
 | c::l,i,j,h=>by
  unfold low at h
  split at h
  ·cases h;simp
  ·have:=mQ l (i+1) j h;simp only [List.length_cons];omega
def xA (i f:Nat) (b:List UInt8):Nat × Nat × Int:=match low (b.take f) i with
 | none=>if b.length<f then (0,0,10) else (0,0,11)
 | some j=>if j=9/\1<(b.getD (j-i) 0).toNat then (0,0,11) else if 0<j/\(b.getD (j-i) 0).toNat=0 then (0,0,12) else (cZ (b.take (j-i+1)),j-i+1,0)
theorem rX:∀ (f i:Nat) (b:List UInt8),f+i=10->0<f->cI f i b=xA i f b
 | 0,_,_,_,h=>absurd h (by omega)
 | f+1,i,[],_,_=>by simp [cI,xA,low]
 | f+1,i,c::r,hf,_=>by
  have hc:c.toNat<256:=c.toNat_lt;by_cases h:c.toNat<128
  ·have e:low ((c::r).take (f+1)) i=some i:=by rw [List.take_succ_cons,low,if_pos h]
   unfold xA;rw [e,cI];simp only [Nat.sub_self,List.getD_cons_zero,if_pos h];by_cases h9:i=9/\1<c.toNat
   ·rw [if_pos h9,if_pos h9]
   ·rw [if_neg h9,if_neg h9];by_cases h0:0<i/\c.toNat=0
    ·rw [if_pos h0,if_pos h0]
    ·rw [if_neg h0,if_neg h0];simp only [Nat.zero_add,List.take_succ_cons,List.take_zero,cZ];rw [Nat.mod_eq_of_lt h];simp
  ·have e:low ((c::r).take (f+1)) i=low (r.take f) (i+1):=by rw [List.take_succ_cons,low,if_neg h]
   by_cases h9:i=9
   ·have hf0:f=0:=by omega
    subst hf0;unfold xA;rw [e,cI,if_pos ⟨h9,by omega⟩];simp [low]
   ·have ih:=rX f (i+1) r (by omega) (by omega);unfold xA at ih ⊢;rw [e,cI,if_neg (fun hh=>h9 hh.1),if_neg h,ih]
    cases hl:low (r.take f) (i+1) with
    | none =>
     by_cases hr:r.length<f
     ·have hr':(c::r).length<f+1:=by simp only [List.length_cons];omega
      simp only [if_pos hr,if_pos hr'];simp
     ·have hr':¬ (c::r).length<f+1:=by simp only [List.length_cons];omega
      simp only [if_neg hr,if_neg hr'];simp
    | some j =>
     have hj:=mQ _ _ _ hl
     have ej:j-i=(j-(i+1))+1:=by omega
     simp only;rw [ej,List.getD_cons_succ];by_cases a1:j=9/\1<(r.getD (j-(i+1)) 0).toNat
     ·simp only [if_pos a1];simp
     ·by_cases a2:0<j/\(r.getD (j-(i+1)) 0).toNat=0
      ·simp only [if_neg a1,if_pos a2];simp
      ·simp only [if_neg a1,if_neg a2,if_true,List.take_succ_cons,cZ];refine Prod.ext ?_ rfl;show c.toNat-128+128*_=_*128+c.toNat % 128;omega
theorem AI (b:List UInt8):bJ b=xA 0 10 b:=rX 10 0 b rfl (by omega)
end
end Go.Proofs.YtgohffhoapkeaaaGreatDoor
