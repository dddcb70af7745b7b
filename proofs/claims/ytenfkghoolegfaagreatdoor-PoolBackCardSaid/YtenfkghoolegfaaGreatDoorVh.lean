/- A part of the proof of PoolBack. No condition of its own. -/
import Derived.Test.YtenfkghoolegfaaGreatDoorVz
import Derived.Test.YtenfkghoolegfaaGreatDoorVg
import Derived.Test.YtenfkghoolegfaaGreatDoorVe
import Derived.Test.YtenfkghoolegfaaGreatDoorVf
import Derived.RangeFuncLeaves
import Derived.RangeFuncFrom
import Derived.WalkKit
import Derived.OwnWalkIn
import Derived.TacticsInMore
import Derived.LoopNIn
import Derived.LoopIn
import Derived.Shelf.Abstract
import Derived.Laws.Bits64b
import Derived.Conc.WgArith
import Derived.RangeFuncWrites
import Derived.RangeFuncNested
import Derived.RangeFuncBound
import Derived.RangeFuncCalls
set_option maxHeartbeats 4000000
set_option maxRecDepth 1000000
set_option linter.unusedVariables false
namespace Go.Proofs.YtenfkghoolegfaaGreatDoor
section
open Go.RowKit
theorem Open_err {B:Nat} (A:Option Addr) (c:Nat) (b:List UInt8) (w:World) (hB:B<=w.heap.size) (hr:Reads w B 1 A b.length (bl b)) (hc:b.length<=c) (he:openE b≠0) :
 Calls Tryz.prog 90 #[.slice A b.length c] w fun e w'=>e=.returned (pageNo (openE b))/\Below w.heap.size w w':=by
 unfold openE at he ⊢;by_cases h1:b.length≠256
 ·rw [if_pos h1];exact Open_len A b.length c w h1
 ·rw [if_neg h1] at he ⊢;have hl:b.length=256:=Decidable.not_not.1 h1;obtain ⟨a,rfl,_⟩:=hr.2 (by omega);by_cases h2:checkC b=false
  ·rw [if_pos h2];have:=Open_sum a c b w hB hr hl (by omega) h2;rw [hl];exact this
  ·rw [if_neg h2] at he ⊢;by_cases h3:1<=(b.getD 0 0).toNat/\(b.getD 0 0).toNat<=5
   ·rw [if_pos h3] at he;exact absurd rfl he
   ·rw [if_neg h3];have:=Open_kind a c b w hB hr hl (by omega) (by simpa using h2) h3;rw [hl];exact this
structure NodeLo (L:Nat) (x:NX):Prop where
 ca:∀ ad,x.ca=some ad->L<=ad.block
 da:∀ ad,x.da=some ad->L<=ad.block
 ka:∀ y∈x.l,∀ ad,y.ka=some ad->L<=ad.block
 va:∀ y∈x.l,∀ ad,y.va=some ad->L<=ad.block
theorem NodeLo.mono {L L':Nat} {x:NX} (h:NodeLo L x) (hL:L'<=L):NodeLo L' x :=
 ⟨fun ad e=>nT hL (h.ca ad e),fun ad e=>nT hL (h.da ad e),fun y hy ad e=>nT hL (h.ka y hy ad e),fun y hy ad e=>nT hL (h.va y hy ad e)⟩
theorem CellsAt.fr {w w':World} {B:Nat} {A:Option Addr} {l:List CX} {X:Nat->Prop} (h:CellsAt w B A l) (hf:Fr X w w') (hB:B<=w.heap.size) (h1:∀ ad,A=some ad->¬ X ad.block) (h2:∀ y∈l,∀ ad,y.ka=some ad->¬ X ad.block) (h3:∀ y∈l,∀ ad,y.va=some ad->¬ X ad.block):CellsAt w' B A l:=by
 refine ⟨?_,fun y hy=>reads_fr (h.key y hy) hf hB (h2 y hy),fun y hy=>reads_fr (h.val y hy) hf hB (h3 y hy)⟩
 rcases h.row with h0 | ⟨g,o,e,hg,hc⟩
 ·exact .inl h0
 ·refine .inr ⟨g,o,e,hg,fun k y hy j u hu=>?_⟩;rw [<-hc k y hy j u hu];exact World.cell?_of_block (w:=w) (hf.block g (lT hg hB) (h1 _ e))
theorem NodeAt.fr {w w':World} {B:Nat} {x:NX} {X:Nat->Prop} (h:NodeAt w B x) (hf:Fr X w w') (hB:B<=w.heap.size) {L:Nat} (hL:NodeLo L x) (hX:∀ k,X k->k<L):NodeAt w' B x :=
 have far:∀ ad:Addr,L<=ad.block->¬ X ad.block:=fun ad h1 h2=>by have:=hX _ h2;omega
 ⟨h.cells.fr hf hB (fun ad e=>far ad (hL.ca ad e)) (fun y hy ad e=>far ad (hL.ka y hy ad e)) (fun y hy ad e=>far ad (hL.va y hy ad e)),reads_fr h.data hf hB (fun ad e=>far ad (hL.da ad e)),h.fit,h.many,h.long⟩
def zeroCs:Array Value:=#[.int .i64 0,.int .u64 0,.slice none 0 0,.int .u32 0,.slice none 0 0,.int .u32 0,.int .u32 0,.int .u32 0,.int .u64 0]
def ReadC (kind lsn:Nat) (body:List UInt8):Prop:=∀ (B:Nat) (a:Addr) (w:World),B<=w.heap.size->Reads w B 1 (some a) body.length (bl body)->body.length=243 ->
 Calls Tryz.prog 91 #[.agg #[.int .i64 (kind:Nat),.int .u64 (lsn:Nat),.slice (some a) 243 243]] w fun e w'=>∃ x:NX,e=.returned (.tuple #[x.val,.bool (readPg kind lsn body).isSome])/\(∀ n,readPg kind lsn body=some n->x.n=n)/\NodeAt w' w'.heap.size x/\NodeLo w.heap.size x/\Below w.heap.size w w'
def GetR (b:List UInt8) (B:Nat) (e:Ending) (w w':World):Prop:=(match getP b with
 | .error k=>e=.returned (.tuple #[.agg zeroCs,.int .i64 k])
 | .ok n=>∃ x:NX,x.n=n/\e=.returned (.tuple #[x.val,.int .i64 0])/\NodeAt w' w'.heap.size x/\NodeLo B x)/\Below B w w'
theorem Get_err {B:Nat} (A:Option Addr) (c:Nat) (b:List UInt8) (w:World) (hB:B<=w.heap.size) (hr:Reads w B 1 A b.length (bl b)) (hc:b.length<=c) (he:openE b≠0) :
 Calls Tryz.prog 69 #[.slice A b.length c] w fun e w'=>GetR b w.heap.size e w w':=by
 have hg:getP b=.error (openE b):=by unfold getP;rw [if_pos he]
 unfold GetR;rw [hg];simp only
 obtain ⟨w1,hw1⟩:∃ w1,w1=w.alloc (.cells zeroCs 52):=⟨_,rfl⟩
 have hb1:Below w.heap.size w w1:=by rw [hw1];exact (bR _ w).alloc (nR _) _
 have hN1:Blk w1 w.heap.size 52 zeroCs:=by rw [hw1];exact Blk.new _ _ _
 have hO:=Open_err A c b w1 (nT hB hb1.size) (hr.below (hb1.mono hB)) hc he
 obtain ⟨k,HK⟩:∃ k,Hid (openE b=k):=⟨_,lH rfl⟩
 rw [HK.out] at hO he ⊢
 have k0:(k != 0)=true:=by simpa using he
 unfold pageNo at hO;unfold zeroCs at hN1 hw1 ⊢;have HW1:=lH hw1;have HN1:=lH hN1;clear hw1 hN1 hr he;go_enter Tryz.func69,Tryz.ntmps69
 go_wp2_with (first
  | (rw [<-HW1.out];go_at_call 90;refine hO.mono ?_;rintro e w2 ⟨rfl,hb2⟩;have hb2a:Below w1.heap.size w1 (w2.alloc (.cells #[.int .i64 0,.int .u64 0,.slice none 0 0] 161)):=hb2.alloc hb2.size _;have hN3:=HN1.out.below hb2a HN1.out.lt)
  | (refine wpList_store_row rfl 52 (.tmp 2) (.tmp 15) rfl w.heap.size _ rfl rfl 52 _ hN3 (by kernel_rfl) rfl (by simp [Value.oneCell']) ?_))
 refine bodyPost_ret (rT rfl _ _ w.heap.size 52 _ (0,0) _ rfl (setRow_heap _ _ _ _ _ _ hN3) Tryz.underlying52 rfl (by kernel_rfl)) rfl ?_;refine ⟨rfl,?_⟩;have hb3:=hb1.trans (hb2a.mono hb1.size);exact hb3.trans ((fS _ w.heap.size _).below (B:=w.heap.size) hb3.size (fun k hk=>by omega))
theorem Get_of {B:Nat} (A:Option Addr) (c:Nat) (b:List UInt8) (w:World) (hB:B<=w.heap.size) (hr:Reads w B 1 A b.length (bl b)) (hc:b.length<=c) (hRd:openE b=0->ReadC (kindB b) (lsnB b) (restB b)) :
 Calls Tryz.prog 69 #[.slice A b.length c] w fun e w'=>GetR b w.heap.size e w w':=by
 by_cases he:openE b≠0
 ·exact Get_err A c b w hB hr hc he
 have he:openE b=0:=Decidable.not_not.1 he;obtain ⟨_,hl,hk1,hk5,hrl,hlsn⟩:=seal_open he;have hRd:=hRd he
 have hcs:checkC b=true:=by
  unfold openE at he;rw [if_neg (by omega)] at he;by_cases h:checkC b=false
  ·rw [if_pos h] at he;cases he
  ·simpa using h
 obtain ⟨a,rfl,_⟩:=hr.2 (by omega)
 obtain ⟨w1,hw1⟩:∃ w1,w1=w.alloc (.cells zeroCs 52):=⟨_,rfl⟩
 have hb1:Below w.heap.size w w1:=by rw [hw1];exact (bR _ w).alloc (nR _) _
 have hN1:Blk w1 w.heap.size 52 zeroCs:=by rw [hw1];exact Blk.new _ _ _
 have hO:=Open_ok a c b w1 (nT hB hb1.size) (hr.below (hb1.mono hB)) hl (by omega) hcs ⟨hk1,hk5⟩
 have hgN:readPg (kindB b) (lsnB b) (restB b)=none->getP b=.error 80:=fun h=>by
  unfold getP;rw [if_neg (by rw [he];simp),h]
 have hgS:∀ n,readPg (kindB b) (lsnB b) (restB b)=some n->getP b=if nodeOK n=true then .ok n else .error 80:=fun n h=>by
  unfold getP;rw [if_neg (by rw [he];simp),h]
 unfold GetR;rw [hl];unfold ReadC at hRd
 obtain ⟨kk,HK⟩:∃ k,Hid (kindB b=k):=⟨_,lH rfl⟩
 obtain ⟨ll,HLS⟩:∃ k,Hid (lsnB b=k):=⟨_,lH rfl⟩
 obtain ⟨bb,HBB⟩:∃ k,Hid (restB b=k):=⟨_,lH rfl⟩
 rw [HK.out,HLS.out,HBB.out] at hO hRd hgN hgS;rw [HBB.out] at hrl;have HRd:Hid (∀ (a:Addr) (W:World),Reads W W.heap.size 1 (some a) 243 (bl bb)->_):=lH fun a W h=>hRd W.heap.size a W (nR _) (by rw [hrl];exact h) hrl
 obtain ⟨rp,HRP⟩:∃ r,Hid (readPg kk ll bb=r):=⟨_,lH rfl⟩
 rw [HRP.out] at HRd hgN hgS;unfold zeroCs at hN1 hw1 ⊢;have HW1:=lH hw1;have HN1:=lH hN1;clear hw1 hN1 hr he hcs hRd hk1 hk5 hlsn hl
 cases rp with
 | none =>
  rw [hgN rfl];clear hgN hgS;simp only [Option.isSome_none] at HRd ⊢;go_enter Tryz.func69,Tryz.ntmps69
  go_wp2_with fail
  rw [<-HW1.out];go_at_call 90;refine hO.mono ?_;rintro e w2 ⟨a2,rfl,hr2,hb2⟩;have hb2a:Below w1.heap.size w1 (w2.alloc (.cells #[.int .i64 (kk:Nat),.int .u64 (ll:Nat),.slice (some a2) 243 243] 161)):=hb2.alloc hb2.size _;have hN2:=HN1.out.below hb2a HN1.out.lt;have hr3:=rM (hr2.below ((bR _ w2).alloc (nR _) (.cells #[.int .i64 (kk:Nat),.int .u64 (ll:Nat),.slice (some a2) 243 243] 161))) (show w2.heap.size<=(w2.alloc (.cells #[.int .i64 (kk:Nat),.int .u64 (ll:Nat),.slice (some a2) 243 243] 161)).heap.size by simp)
  go_wp2_with (first
   | (go_at_call 91;refine (HRd.out _ _ hr3).mono ?_;rintro e w4 ⟨x,rfl,_,hx,_,hb4⟩;have hb4a:=hb2a.trans (hb4.mono hb2a.size);have hb4b:Below w1.heap.size w1 (w4.alloc (.cells x.cells 52)):=hb4a.alloc hb4a.size _;have hN3:=HN1.out.below hb4b HN1.out.lt;unfold NX.cells at hN3 hb4b;unfold NX.val nodeV)
   | (refine wpList_store_row rfl 52 (.tmp 2) (.tmp 29) rfl w.heap.size _ rfl rfl 52 _ hN3 (by kernel_rfl) rfl (by simp [Value.oneCell']) ?_))
  refine bodyPost_ret (rT rfl _ _ w.heap.size 52 _ (0,0) _ rfl (setRow_heap _ _ _ _ _ _ hN3) Tryz.underlying52 rfl (by kernel_rfl)) rfl ?_;refine ⟨rfl,?_⟩;have hb3:=hb1.trans (hb4b.mono hb1.size);exact hb3.trans ((fS _ w.heap.size _).below (B:=w.heap.size) hb3.size (fun k hk=>by omega))
 | some n =>
  rw [hgS n rfl];clear hgN hgS;simp only [Option.isSome_some] at HRd ⊢;have HIs:Hid (∀ (x:NX) (W:World),NodeAt W W.heap.size x->_):=lH fun x W h=>isNode_any x W h (nR _)
  cases hn:nodeOK n with
  | false =>
   simp only [Bool.false_eq_true,if_false];go_enter Tryz.func69,Tryz.ntmps69
   go_wp2_with fail
   rw [<-HW1.out];go_at_call 90;refine hO.mono ?_;rintro e w2 ⟨a2,rfl,hr2,hb2⟩;have hb2a:Below w1.heap.size w1 (w2.alloc (.cells #[.int .i64 (kk:Nat),.int .u64 (ll:Nat),.slice (some a2) 243 243] 161)):=hb2.alloc hb2.size _;have hN2:=HN1.out.below hb2a HN1.out.lt;have hr3:=rM (hr2.below ((bR _ w2).alloc (nR _) (.cells #[.int .i64 (kk:Nat),.int .u64 (ll:Nat),.slice (some a2) 243 243] 161))) (show w2.heap.size<=(w2.alloc (.cells #[.int .i64 (kk:Nat),.int .u64 (ll:Nat),.slice (some a2) 243 243] 161)).heap.size by simp)
   go_wp2_with (first
    | (go_at_call 91;refine (HRd.out _ _ hr3).mono ?_;rintro e w4 ⟨x,rfl,hxn,hx,hlo,hb4⟩;have hb4a:=hb2a.trans (hb4.mono hb2a.size);have hb4b:Below w1.heap.size w1 (w4.alloc (.cells x.cells 52)):=hb4a.alloc hb4a.size _;have hX4:=Blk.new w4 52 x.cells;have hI:=HIs.out x (w4.alloc (.cells x.cells 52)) ((hx.below ((bR _ w4).alloc (nR _) (.cells x.cells 52))).mono (show w4.heap.size<=(w4.alloc (.cells x.cells 52)).heap.size by simp));rw [hxn n rfl,hn] at hI;unfold NX.val nodeV at hI;unfold NX.cells at hX4 hb4b hI;unfold NX.val nodeV)
    | (refine wpList_load_row rfl 52 (.tmp 6) rfl w4.heap.size rfl _ _ _ _ hX4 Tryz.underlying52 rfl (by kernel_rfl) ?_)
    | (go_at_call 92;refine hI.mono ?_;rintro e w6 ⟨rfl,hb6⟩;have hb6a:=hb4b.trans (hb6.mono hb4b.size);have hN3:=HN1.out.below hb6a HN1.out.lt)
    | (refine wpList_store_row rfl 52 (.tmp 2) (.tmp 29) rfl w.heap.size _ rfl rfl 52 _ hN3 (by kernel_rfl) rfl (by simp [Value.oneCell']) ?_))
   refine bodyPost_ret (rT rfl _ _ w.heap.size 52 _ (0,0) _ rfl (setRow_heap _ _ _ _ _ _ hN3) Tryz.underlying52 rfl (by kernel_rfl)) rfl ?_;refine ⟨rfl,?_⟩;have hb7:=hb1.trans (hb6a.mono hb1.size);exact hb7.trans ((fS _ w.heap.size _).below (B:=w.heap.size) hb7.size (fun k hk=>by omega))
  | true =>
   simp only [if_true];go_enter Tryz.func69,Tryz.ntmps69
   go_wp2_with fail
   rw [<-HW1.out];go_at_call 90;refine hO.mono ?_;rintro e w2 ⟨a2,rfl,hr2,hb2⟩;have hb2a:Below w1.heap.size w1 (w2.alloc (.cells #[.int .i64 (kk:Nat),.int .u64 (ll:Nat),.slice (some a2) 243 243] 161)):=hb2.alloc hb2.size _;have hN2:=HN1.out.below hb2a HN1.out.lt;have hr3:=rM (hr2.below ((bR _ w2).alloc (nR _) (.cells #[.int .i64 (kk:Nat),.int .u64 (ll:Nat),.slice (some a2) 243 243] 161))) (show w2.heap.size<=(w2.alloc (.cells #[.int .i64 (kk:Nat),.int .u64 (ll:Nat),.slice (some a2) 243 243] 161)).heap.size by simp)
   go_wp2_with (first
    | (go_at_call 91;refine (HRd.out _ _ hr3).mono ?_;rintro e w4 ⟨x,rfl,hxn,hx,hlo,hb4⟩;have hb4a:=hb2a.trans (hb4.mono hb2a.size);have hb4b:Below w1.heap.size w1 (w4.alloc (.cells x.cells 52)):=hb4a.alloc hb4a.size _;have hX4:=Blk.new w4 52 x.cells;have hI:=HIs.out x (w4.alloc (.cells x.cells 52)) ((hx.below ((bR _ w4).alloc (nR _) (.cells x.cells 52))).mono (show w4.heap.size<=(w4.alloc (.cells x.cells 52)).heap.size by simp));rw [hxn n rfl,hn] at hI;unfold NX.val nodeV at hI;unfold NX.cells at hX4 hb4b hI;unfold NX.val nodeV)
    | (refine wpList_load_row rfl 52 (.tmp 6) rfl w4.heap.size rfl _ _ _ _ hX4 Tryz.underlying52 rfl (by kernel_rfl) ?_)
    | (go_at_call 92;refine hI.mono ?_;rintro e w6 ⟨rfl,hb6⟩;have hb6a:=hb4b.trans (hb6.mono hb4b.size);have hN3:=HN1.out.below hb6a HN1.out.lt;have hX6:=hX4.below hb6 hX4.lt)
    | (refine wpList_load_row rfl 52 (.tmp 6) rfl w4.heap.size rfl _ _ _ _ hX6 Tryz.underlying52 rfl (by kernel_rfl) ?_)
    | (refine wpList_store_row rfl 52 (.tmp 2) (.tmp 30) rfl w.heap.size _ rfl rfl 52 _ hN3 (by kernel_rfl) rfl (by simp [Value.oneCell']) ?_))
   refine bodyPost_ret (rT rfl _ _ w.heap.size 52 _ (0,0) _ rfl (setRow_heap _ _ _ _ _ _ hN3) Tryz.underlying52 rfl (by kernel_rfl)) rfl ?_;have hb7:=hb1.trans (hb6a.mono hb1.size);refine ⟨⟨x,hxn n rfl,rfl,?_,hlo.mono (nT hb1.size hb2a.size)⟩,hb7.trans ((fS _ w.heap.size _).below (B:=w.heap.size) hb7.size (fun k hk=>by omega))⟩;rw [size_setRow];have h46:Below w4.heap.size w4 w6:=((bR _ w4).alloc (nR _) _).trans (hb6.mono (by simp));have hs:w.heap.size+1<=w1.heap.size:=HN1.out.lt;exact ((hx.below h46).mono h46.size).fr (fS _ _ _) (nR _) (hlo.mono (nT hs hb2a.size)) (fun k hk=>by omega)
theorem some_if {α:Type} {c:Prop} [Decidable c] (x:α):(if c then some x else none).isSome=decide c:=by
 by_cases h:c
 ·rw [if_pos h,dT h];rfl
 ·rw [if_neg h,dF h];rfl
theorem ReadC_5 (lsn:Nat) (b:List UInt8):ReadC 5 lsn b:=by
 intro B a w hB hr hl;refine (read_free lsn a b w hB hr hl).mono ?_;rintro e w' ⟨rfl,hb⟩;have e1:readPg 5 lsn b=if padB (fixN 4 (numN (b.take 4)))=b then some ⟨5,lsn,[],numN (b.take 4),[],0,0,0,0⟩ else none:=rfl;refine ⟨⟨5,lsn,none,0,[],numN (b.take 4),none,0,[],0,0,0,0⟩,?_,?_,⟨⟨.inl rfl,fun y hy=>(by cases hy),fun y hy=>(by cases hy)⟩,Reads.none_,fun y hy=>(by cases hy),zL _,zL _⟩,⟨fun ad h=>(by cases h),fun ad h=>(by cases h),fun y hy=>(by cases hy),fun y hy=>(by cases hy)⟩,hb⟩
 ·rw [e1,some_if];rfl
 ·intro n hn;rw [e1] at hn
  split at hn
  ·cases hn;rfl
  ·cases hn
theorem ReadC_4 (lsn:Nat) (b:List UInt8):ReadC 4 lsn b:=by
 intro B a w hB hr hl;refine (read_over lsn a b w hB hr hl).mono ?_;rintro e w' ⟨A,c,rfl,hlo,hrd,hb⟩;have e1:readPg 4 lsn b=if padB (fixN 4 (numN (b.take 4))++([UInt8.ofNat ((b.drop 5).take (min (5+(b.getD 4 0).toNat) b.length-5)).length]++(b.drop 5).take (min (5+(b.getD 4 0).toNat) b.length-5)))=b then some ⟨4,lsn,[],numN (b.take 4),(b.drop 5).take (min (5+(b.getD 4 0).toNat) b.length-5),0,0,0,0⟩ else none:=rfl;rw [hl] at e1;refine ⟨⟨4,lsn,none,0,[],numN (b.take 4),A,c,(b.drop 5).take (min (5+(b.getD 4 0).toNat) 243-5),0,0,0,0⟩,?_,?_,⟨⟨.inl rfl,fun y hy=>(by cases hy),fun y hy=>(by cases hy)⟩,hrd,fun y hy=>(by cases hy),zL _,?_⟩,⟨fun ad h=>(by cases h),hlo,fun y hy=>(by cases hy),fun y hy=>(by cases hy)⟩,hb⟩
 ·rw [e1,some_if];rfl
 ·intro n hn;rw [e1] at hn
  split at hn
  ·cases hn;rfl
  ·cases hn
 ·show ((b.drop 5).take _).length<=_;rw [lK];omega
theorem read_head {B:Nat} (lsn:Nat) (a:Addr) (b:List UInt8) (w:World) (hB:B<=w.heap.size) (hr:Reads w B 1 (some a) b.length (bl b)) (hl:b.length=243) :
 Calls Tryz.prog 91 #[.agg #[.int .i64 1,.int .u64 (lsn:Nat),.slice (some a) 243 243]] w fun e w' =>
  e=.returned (.tuple #[.agg (flatCs 1 lsn 0 none 0 0 (numN ((b.drop 5).take 4)) (numN ((b.drop 9).take 4)) (numN ((b.drop 13).take 4)) (numN ((b.drop 17).take 8))),.bool (decide (padB (magicB++(fixN 4 (numN ((b.drop 5).take 4))++(fixN 4 (numN ((b.drop 9).take 4))++(fixN 4 (numN ((b.drop 13).take 4))++fixN 8 (numN ((b.drop 17).take 8))))))=b))])/\Below w.heap.size w w':=by
 have h41:((b.drop 5).take 4).length=4:=by rw [lK,lD];omega
 have hlt1:=numN_lt ((b.drop 5).take 4);rw [h41] at hlt1;have hlt1:numN ((b.drop 5).take 4)<4294967296:=hlt1;have hN1:Hid (∀ W,Below w.heap.size w W->_):=lH fun W hW=>number4_any a b 5 W (hr.below (hW.mono hB)) hl (by omega)
 obtain ⟨m1,HM1⟩:∃ m,Hid (numN ((b.drop 5).take 4)=m):=⟨_,lH rfl⟩
 rw [HM1.out] at hN1 hlt1 ⊢
 have h42:((b.drop 9).take 4).length=4:=by rw [lK,lD];omega
 have hlt2:=numN_lt ((b.drop 9).take 4);rw [h42] at hlt2;have hlt2:numN ((b.drop 9).take 4)<4294967296:=hlt2;have hN2:Hid (∀ W,Below w.heap.size w W->_):=lH fun W hW=>number4_any a b 9 W (hr.below (hW.mono hB)) hl (by omega)
 obtain ⟨m2,HM2⟩:∃ m,Hid (numN ((b.drop 9).take 4)=m):=⟨_,lH rfl⟩
 rw [HM2.out] at hN2 hlt2 ⊢
 have h43:((b.drop 13).take 4).length=4:=by rw [lK,lD];omega
 have hlt3:=numN_lt ((b.drop 13).take 4);rw [h43] at hlt3;have hlt3:numN ((b.drop 13).take 4)<4294967296:=hlt3;have hN3:Hid (∀ W,Below w.heap.size w W->_):=lH fun W hW=>number4_any a b 13 W (hr.below (hW.mono hB)) hl (by omega)
 obtain ⟨m3,HM3⟩:∃ m,Hid (numN ((b.drop 13).take 4)=m):=⟨_,lH rfl⟩
 rw [HM3.out] at hN3 hlt3 ⊢
 have h44:((b.drop 17).take 8).length=8:=by rw [lK,lD];omega
 have hlt4:=numN_lt ((b.drop 17).take 8);rw [h44] at hlt4;have hlt4:numN ((b.drop 17).take 8)<18446744073709551616:=hlt4;have hN4:Hid (∀ W,Below w.heap.size w W->_):=lH fun W hW=>Number_any (some (a.add 17)) 226 ((b.drop 17).take 8) W (by rw [h44];exact reads_sub (hr.below (hW.mono hB)) (m:=17) (n:=8) (by omega)) (by omega);rw [h44] at hN4;rw [show a.add 17=⟨a.block,a.off+17,none⟩ from rfl] at hN4
 obtain ⟨m4,HM4⟩:∃ m,Hid (numN ((b.drop 17).take 8)=m):=⟨_,lH rfl⟩
 rw [HM4.out] at hN4 hlt4 ⊢
 obtain ⟨w0,hw0⟩:∃ w0,w0=(w.alloc (.cells #[.int .i64 1,.int .u64 (lsn:Nat),.slice (some a) 243 243] 161)).alloc (.cells #[.int .i64 1,.int .u64 (lsn:Nat),.slice none 0 0,.int .u32 0,.slice none 0 0,.int .u32 0,.int .u32 0,.int .u32 0,.int .u64 0] 52):=⟨_,rfl⟩
 have hb0:Below w.heap.size w w0:=by rw [hw0];exact (((bR w.heap.size w).alloc (by simp) _).alloc (by simp) _)
 have hK0:Blk w0 (w.heap.size+1) 52 #[.int .i64 1,.int .u64 (lsn:Nat),.slice none 0 0,.int .u32 0,.slice none 0 0,.int .u32 0,.int .u32 0,.int .u32 0,.int .u64 0]:=by rw [hw0];exact blk_newH _ _ _ (by simp)
 have hbd0:Below w.heap.size w w0.drew:=hb0.drew;have hKd:Blk w0.drew (w.heap.size+1) 52 #[.int .i64 1,.int .u64 (lsn:Nat),.slice none 0 0,.int .u32 0,.slice none 0 0,.int .u32 0,.int .u32 0,.int .u32 0,.int .u64 0]:=hK0;have k5:w0.drew.cell? ⟨w.heap.size+1,5,none⟩=some (.int .u32 0):=hKd.cell 5;have k6:w0.drew.cell? ⟨w.heap.size+1,6,none⟩=some (.int .u32 0):=hKd.cell 6;have k7:w0.drew.cell? ⟨w.heap.size+1,7,none⟩=some (.int .u32 0):=hKd.cell 7;have k8:w0.drew.cell? ⟨w.heap.size+1,8,none⟩=some (.int .u64 0):=hKd.cell 8;have f5:=hKd.frozen 5;have f6:=hKd.frozen 6;have f7:=hKd.frozen 7;have f8:=hKd.frozen 8;have g6:(w0.setCell ⟨w.heap.size+1,5,none⟩ (.int .u32 (m1:Nat))).drew.cell? ⟨w.heap.size+1,6,none⟩=some (.int .u32 0):=(hK0.set_ 5 _).cell 6;have g6f:(w0.setCell ⟨w.heap.size+1,5,none⟩ (.int .u32 (m1:Nat))).drew.frozen? ⟨w.heap.size+1,6,none⟩=false:=(hK0.set_ 5 _).frozen 6;have g7:((w0.setCell ⟨w.heap.size+1,5,none⟩ (.int .u32 (m1:Nat))).setCell ⟨w.heap.size+1,6,none⟩ (.int .u32 (m2:Nat))).drew.cell? ⟨w.heap.size+1,7,none⟩=some (.int .u32 0):=((hK0.set_ 5 _).set_ 6 _).cell 7;have g7f:((w0.setCell ⟨w.heap.size+1,5,none⟩ (.int .u32 (m1:Nat))).setCell ⟨w.heap.size+1,6,none⟩ (.int .u32 (m2:Nat))).drew.frozen? ⟨w.heap.size+1,7,none⟩=false:=((hK0.set_ 5 _).set_ 6 _).frozen 7;have g8:(((w0.setCell ⟨w.heap.size+1,5,none⟩ (.int .u32 (m1:Nat))).setCell ⟨w.heap.size+1,6,none⟩ (.int .u32 (m2:Nat))).setCell ⟨w.heap.size+1,7,none⟩ (.int .u32 (m3:Nat))).drew.cell? ⟨w.heap.size+1,8,none⟩=some (.int .u64 0):=(((hK0.set_ 5 _).set_ 6 _).set_ 7 _).cell 8;have g8f:(((w0.setCell ⟨w.heap.size+1,5,none⟩ (.int .u32 (m1:Nat))).setCell ⟨w.heap.size+1,6,none⟩ (.int .u32 (m2:Nat))).setCell ⟨w.heap.size+1,7,none⟩ (.int .u32 (m3:Nat))).drew.frozen? ⟨w.heap.size+1,8,none⟩=false:=(((hK0.set_ 5 _).set_ 6 _).set_ 7 _).frozen 8;have hC1:Calls Tryz.prog 114 #[.slice (some a) 243 243,.int .i64 5] w0.drew fun e w'=>e=.returned (.int .u32 (m1:Nat))/\w0.drew=w':=hN1.out _ hbd0;have hC2:Calls Tryz.prog 114 #[.slice (some a) 243 243,.int .i64 9] w0.drew fun e w'=>e=.returned (.int .u32 (m2:Nat))/\w0.drew=w':=hN2.out _ hbd0;have hC3:Calls Tryz.prog 114 #[.slice (some a) 243 243,.int .i64 13] w0.drew fun e w'=>e=.returned (.int .u32 (m3:Nat))/\w0.drew=w':=hN3.out _ hbd0;have hC4:=hN4.out _ hbd0;have z1:IntKind.i64.wrap 9=9:=rfl;have z2:IntKind.i64.wrap 13=13:=rfl;have z3:IntKind.i64.wrap 17=17:=rfl;have z4:IntKind.i64.wrap 25=25:=rfl
 obtain ⟨w1,hw1⟩:∃ w1,w1=((((w0.setCell ⟨w.heap.size+1,5,none⟩ (.int .u32 (m1:Nat))).setCell ⟨w.heap.size+1,6,none⟩ (.int .u32 (m2:Nat))).setCell ⟨w.heap.size+1,7,none⟩ (.int .u32 (m3:Nat))).setCell ⟨w.heap.size+1,8,none⟩ (.int .u64 (m4:Nat))).drew:=⟨_,rfl⟩
 have hK1:Blk w1 (w.heap.size+1) 52 #[.int .i64 1,.int .u64 (lsn:Nat),.slice none 0 0,.int .u32 0,.slice none 0 0,.int .u32 (m1:Nat),.int .u32 (m2:Nat),.int .u32 (m3:Nat),.int .u64 (m4:Nat)]:=by rw [hw1];exact (((hK0.set_ 5 _).set_ 6 _).set_ 7 _).set_ 8 _
 have hb1:Below w.heap.size w w1:=by rw [hw1];exact ((((hb0.setCell (p:=⟨w.heap.size+1,5,none⟩) (Nat.le_succ _) _).setCell (p:=⟨w.heap.size+1,6,none⟩) (Nat.le_succ _) _).setCell (p:=⟨w.heap.size+1,7,none⟩) (Nat.le_succ _) _).setCell (p:=⟨w.heap.size+1,8,none⟩) (Nat.le_succ _) _).drew
 have kS:Hid (∀ W,Below w1.heap.size w1 W->(W.cell? ⟨w.heap.size+1,0,none⟩=some (.int .i64 1)/\W.cell? ⟨w.heap.size+1,1,none⟩=some (.int .u64 (lsn:Nat))/\W.cell? ⟨w.heap.size+1,2,none⟩=some (.slice none 0 0)/\W.cell? ⟨w.heap.size+1,3,none⟩=some (.int .u32 0)/\W.cell? ⟨w.heap.size+1,4,none⟩=some (.slice none 0 0)/\W.cell? ⟨w.heap.size+1,5,none⟩=some (.int .u32 (m1:Nat))/\W.cell? ⟨w.heap.size+1,6,none⟩=some (.int .u32 (m2:Nat))/\W.cell? ⟨w.heap.size+1,7,none⟩=some (.int .u32 (m3:Nat))/\W.cell? ⟨w.heap.size+1,8,none⟩=some (.int .u64 (m4:Nat)))):=lH fun W hW=>⟨(hK1.below hW hK1.lt).cell 0,(hK1.below hW hK1.lt).cell 1,(hK1.below hW hK1.lt).cell 2,(hK1.below hW hK1.lt).cell 3,(hK1.below hW hK1.lt).cell 4,(hK1.below hW hK1.lt).cell 5,(hK1.below hW hK1.lt).cell 6,(hK1.below hW hK1.lt).cell 7,(hK1.below hW hK1.lt).cell 8⟩
 have hBd:=body_head ⟨1,lsn,none,0,[],0,none,0,[],m1,m2,m3,m4⟩ w1.drew rfl hlt1 hlt2 hlt3 hlt4;have hbn:bodyN (NX.n ⟨1,lsn,none,0,[],0,none,0,[],m1,m2,m3,m4⟩)=padB (magicB++(fixN 4 m1++(fixN 4 m2++(fixN 4 m3++fixN 8 m4)))):=rfl;rw [hbn] at hBd;unfold NX.val nodeV at hBd;dsimp only [List.length_nil] at hBd;simp only [Int.natCast_zero] at hBd
 have hpl:(padB (magicB++(fixN 4 m1++(fixN 4 m2++(fixN 4 m3++fixN 8 m4))))).length=243:=by unfold padB;simp [fL,magicB]
 obtain ⟨q,HQ⟩:∃ q,Hid (padB (magicB++(fixN 4 m1++(fixN 4 m2++(fixN 4 m3++fixN 8 m4))))=q):=⟨_,lH rfl⟩
 rw [HQ.out] at hBd hpl ⊢;have hEq:Hid (∀ (W:World) (g:Nat),Below w.heap.size w W->Blk W g 5 (bl q).toArray->_):=lH fun W g hW hG=>Equal_any 243 243 W (rB hG rfl) (hr.below (hW.mono hB));rw [hl,hpl] at hEq;have HW1:=lH hw1;have HK1:=lH hK1;have HW0:=lH hw0;clear hw1 hK1 hw0 hK0 hKd;go_enter Tryz.func91,Tryz.ntmps91
 go_wp2_with fail
 rw [<-HW0.out];refine wp_region_tail 19 (by kernel_rfl) (by kernel_rfl) ?_;simp only [List.take_succ_cons,List.take_zero,List.drop_succ_cons,List.drop_zero]
 repeat still_step
 still_call (hC1.mono fun _ _ h=>⟨h.1,h.2.symm⟩)
 repeat still_step
 still_call (hC2.mono fun _ _ h=>⟨h.1,h.2.symm⟩)
 repeat still_step
 still_call (hC3.mono fun _ _ h=>⟨h.1,h.2.symm⟩)
 repeat still_step
 still_call (hC4.mono fun _ _ h=>⟨h.1,h.2.symm⟩)
 repeat still_step
 refine wpStill_nil ?_
 go_wp2_with fail
 rw [<-HW1.out]
 go_wp2_with fail
 have hbd:Below w1.heap.size w1 w1.drew:=(bR _ w1).drew;refine regionE 5 (fun W0=>W0.cell? ⟨w.heap.size+1,0,none⟩=some (.int .i64 1)/\W0.cell? ⟨w.heap.size+1,1,none⟩=some (.int .u64 (lsn:Nat))/\W0.cell? ⟨w.heap.size+1,2,none⟩=some (.slice none 0 0)/\W0.cell? ⟨w.heap.size+1,3,none⟩=some (.int .u32 0)/\W0.cell? ⟨w.heap.size+1,4,none⟩=some (.slice none 0 0)/\W0.cell? ⟨w.heap.size+1,5,none⟩=some (.int .u32 (m1:Nat))/\W0.cell? ⟨w.heap.size+1,6,none⟩=some (.int .u32 (m2:Nat))/\W0.cell? ⟨w.heap.size+1,7,none⟩=some (.int .u32 (m3:Nat))/\W0.cell? ⟨w.heap.size+1,8,none⟩=some (.int .u64 (m4:Nat))) (by kernel_rfl) (by kernel_rfl) (by kernel_rfl) (by kernel_rfl) (by kernel_rfl) (kS.out _ hbd) (fun hHeld hTl=>?_);refine tkT 0 (v:=?_) hTl hHeld rfl ?_ (fun hTl=>?_);rotate_left
 ·intro w hSw;(try dsimp only at hSw);go_simp;all_goals with_reducible rfl
 try simp only [pT]
 refine tkT 1 (v:=?_) hTl hHeld rfl ?_ (fun hTl=>?_);rotate_left
 ·intro w hSw;(try dsimp only at hSw);go_simp;all_goals with_reducible rfl
 try simp only [pT]
 refine tkT 3 (v:=?_) hTl hHeld rfl ?_ (fun hTl=>?_);rotate_left
 ·intro w hSw;(try dsimp only at hSw);go_simp;all_goals with_reducible rfl
 try simp only [pT]
 clear hTl;refine oneE 2 rfl (by kernel_rfl) (fun K hK=>?_);refine sC rfl 106 _ (by go_simp) hBd ?_
 rintro e w3 ⟨g,e3,hg,hG,hb3⟩;subst e3;refine ⟨_,rfl,?_⟩;have hb3':=hbd.trans (hb3.mono hbd.size)
 refine hK.out _ _ (fun _=>kS.out _ hb3') ?_;clear hK K
 try simp only [pT]
 have hE3:=hEq.out _ _ (hb1.trans (hb3'.mono hb1.size)) hG;refine oneE 4 rfl (by kernel_rfl) (fun K hK=>?_);refine sC rfl 116 _ (by go_simp) hE3 ?_;rintro e w4 ⟨e4,h4⟩;subst e4;subst h4;refine ⟨_,rfl,?_⟩;refine hK.out _ _ (fun _=>kS.out _ hb3') ?_;clear hK K
 try simp only [pT]
 have hK3:=HK1.out.below hb3' HK1.out.lt;refine oneE 5 rfl (by kernel_rfl) (fun K hK=>?_);refine step_storeRow rfl 52 (.tmp 2) (.tmp 69) rfl (w.heap.size+1) #[.int .i64 1,.int .u64 (lsn:Nat),.slice none 0 0,.int .u32 0,.slice none 0 0,.int .u32 (m1:Nat),.int .u32 (m2:Nat),.int .u32 (m3:Nat),.int .u64 (m4:Nat)] rfl rfl 52 _ hK3 (by kernel_rfl) rfl (by simp [Value.oneCell']) ?_
 skip
 refine hK.out _ _ (fun h=>absurd h (by decide)) ?_;clear hK K
 try simp only [pT]
 refine oneE 6 rfl (by kernel_rfl) (fun K hK=>?_);go_simp;refine hK.out _ _ (fun h=>absurd h (by decide)) ?_;clear hK K
 try simp only [pT]
 refine doneE (by kernel_rfl) ?_ _;go_wp2;refine bodyPost_ret (rT rfl _ _ (w.heap.size+1) 52 #[.int .i64 1,.int .u64 (lsn:Nat),.slice none 0 0,.int .u32 0,.slice none 0 0,.int .u32 (m1:Nat),.int .u32 (m2:Nat),.int .u32 (m3:Nat),.int .u64 (m4:Nat)] (0,0) _ rfl (setRow_heap _ _ _ _ _ _ hK3) Tryz.underlying52 rfl (by kernel_rfl)) rfl ?_;refine ⟨rfl,?_⟩;have hb4:=hb1.trans (hb3'.mono hb1.size);exact hb4.trans ((fS _ _ _).below (B:=w.heap.size) hb4.size (fun k hk=>by omega))
theorem ReadC_1 (lsn:Nat) (b:List UInt8):ReadC 1 lsn b:=by
 intro B a w hB hr hl;refine (read_head lsn a b w hB hr hl).mono ?_;rintro e w' ⟨rfl,hb⟩;have e1:readPg 1 lsn b=if padB (magicB++(fixN 4 (numN ((b.drop 5).take 4))++(fixN 4 (numN ((b.drop 9).take 4))++(fixN 4 (numN ((b.drop 13).take 4))++fixN 8 (numN ((b.drop 17).take 8))))))=b then some ⟨1,lsn,[],0,[],numN ((b.drop 5).take 4),numN ((b.drop 9).take 4),numN ((b.drop 13).take 4),numN ((b.drop 17).take 8)⟩ else none:=rfl;refine ⟨⟨1,lsn,none,0,[],0,none,0,[],numN ((b.drop 5).take 4),numN ((b.drop 9).take 4),numN ((b.drop 13).take 4),numN ((b.drop 17).take 8)⟩,?_,?_,⟨⟨.inl rfl,fun y hy=>(by cases hy),fun y hy=>(by cases hy)⟩,Reads.none_,fun y hy=>(by cases hy),zL _,zL _⟩,⟨fun ad h=>(by cases h),fun ad h=>(by cases h),fun y hy=>(by cases hy),fun y hy=>(by cases hy)⟩,hb⟩
 ·rw [e1,some_if];rfl
 ·intro n hn;rw [e1] at hn
  split at hn
  ·cases hn;rfl
  ·cases hn
def tl (l:List Bool):List Value:=l.map .bool
theorem tl_len (l:List Bool):(tl l).length=l.length:=List.length_map _
theorem BIdx_any {B:Nat} (A:Option Addr) (c:Nat) (l:List Bool) (w:World) (hr:Reads w B 1 A l.length (tl l)) (hl:l.length<=1000) :
 Calls Tryz.prog 223 #[.slice A l.length c,.bool true] w fun e w'=>∃ z:Int,e=.returned (.int .i64 z)/\(0<=z↔true∈l)/\w'=w:=by
 have HR:=lH hr;clear hr;go_enter Tryz.func223,Tryz.ntmps223;go_wp2
 go_loopw [8] (fun i wr=>∃ k:Nat,k<=l.length/\i=.int .i64 k/\(∀ j,j<k->l[j]?=some false)/\wr=w) (fun i _=>l.length-(intOf i).toNat)
 case atStart=>exact ⟨0,zL _,rfl,fun j hj=>absurd hj (Nat.not_lt_zero _),rfl⟩
 case round =>
  obtain ⟨k,hk,rfl,hno,hq⟩:=hrel;have HNO:=lH (aI hno hq);by_cases hlt:k<l.length
  ·have d1:decide (k<l.length)=true:=dT hlt
   obtain ⟨x,hx⟩:∃ x,l[k]?=some x:=⟨_,gE hlt⟩
   obtain ⟨ad,rfl,_,hc⟩:=HR.out.2 (by omega)
   have c1:wr.cell? (ad.add k)=some (.bool x):=by rw [HNO.out.2];exact hc k _ (by unfold tl;rw [List.getElem?_map,hx];rfl)
   have a5:(0:Int)<=(k:Int):=by omega
   have a6:(k:Int)<(l.length:Int):=by omega
   have HX:=lH hx;clear hc hx hno hq
   cases x with
   | true =>
    go_wp2;go_ret;exact ⟨_,rfl,⟨fun _=>mG HX.out,fun _=>a5⟩,HNO.out.2⟩
   | false =>
    go_wp2
    go_roundw
    case rel=>exact ⟨k+1,by omega,by go_num,fun j hj=>by
     by_cases e:j=k
     ·rw [e];exact HX.out
     ·exact HNO.out.1 j (by omega),HNO.out.2⟩
    case measure=>simp [intOf];omega
  ·have d1:decide (k<l.length)=false:=dF hlt;go_wp2;go_ret;refine ⟨_,rfl,⟨fun h=>absurd h (by decide),fun h=>?_⟩,rfl⟩;obtain ⟨j,hj⟩:=List.getElem?_of_mem h;have hjl:=(lS.1 hj).1;rw [HNO.out.1 j (by omega)] at hj
   cases hj
theorem BHas_any {B:Nat} (A:Option Addr) (c:Nat) (l:List Bool) (w:World) (hr:Reads w B 1 A l.length (tl l)) (hl:l.length<=1000) :
 Calls Tryz.prog 216 #[.slice A l.length c,.bool true] w fun e w'=>e=.returned (.bool (decide (true∈l)))/\w'=w:=by
 have hI:=BIdx_any A c l w hr hl;clear hr;go_enter Tryz.func216,Tryz.ntmps216
 go_wp2_with (go_at_call 223;refine hI.mono ?_;rintro e w2 ⟨z,rfl,hz,rfl⟩)
 go_ret;exact ⟨rfl,rfl⟩
def tkL (t:Nat->Bool):List Bool:=(List.range 243).map t
theorem tkL_len (t:Nat->Bool):(tkL t).length=243:=by unfold tkL;rw [List.length_map,List.length_range]
theorem tkL_get (t:Nat->Bool) {j:Nat} (h:j<243):(tkL t)[j]?=some (t j):=by unfold tkL;rw [List.getElem?_map,List.getElem?_range h];rfl
def TkB (w:World) (g:Nat) (t:Nat->Bool):Prop:=Blk w g 296 (tl (tkL t)).toArray
theorem TkB.cell {w:World} {g:Nat} {t:Nat->Bool} (h:TkB w g t) {j:Nat} (hj:j<243):w.cell? ⟨g,j,none⟩=some (.bool (t j)):=by
 have h1:=Blk.cell h j;rw [h1];unfold tl;simp [tkL_get t hj]
theorem TkB.step {w:World} {g:Nat} {t:Nat->Bool} {a k:Nat} (h:TkB w g (takS t a k)) (hk:a+k<243):TkB (w.setCell ⟨g,a+k,none⟩ (.bool true)) g (takS t a (k+1)):=by
 have h1:=Blk.set_ h (a+k) (.bool true)
 have e:(tl (tkL (takS t a k))).toArray.setIfInBounds (a+k) (.bool true)=(tl (tkL (takS t a (k+1)))).toArray:=by
  rw [List.setIfInBounds_toArray];congr 1;apply List.ext_getElem?;intro j;rw [List.getElem?_set,tl_len,tkL_len];unfold tl;by_cases hj:j<243
  ·rw [List.getElem?_map,List.getElem?_map,tkL_get _ hj,tkL_get _ hj];by_cases e:a+k=j
   ·subst e;rw [if_pos rfl,if_pos hj];simp [takS]
   ·rw [if_neg e]
    have:takS t a k j=takS t a (k+1) j:=by
     unfold takS;congr 1;rw [Bool.eq_iff_iff];simp only [Bool.and_eq_true,decide_eq_true_eq];omega
    rw [this]
  ·rw [List.getElem?_map,List.getElem?_map,List.getElem?_eq_none (by rw [tkL_len];omega),List.getElem?_eq_none (by rw [tkL_len];omega),if_neg (by omega)]
 rw [e] at h1;exact h1
theorem TkB.below {w w':World} {g B:Nat} {t:Nat->Bool} (h:TkB w g t) (hb:Below B w w') (hg:g<B):TkB w' g t:=Blk.below h hb hg
theorem TkB.reads {w:World} {g:Nat} {t:Nat->Bool} (h:TkB w g t) {a n:Nat} (hn:a+n<=243):Reads w w.heap.size 1 (some (if 243=a then ⟨g,0,none⟩ else ⟨g,a,none⟩)) n (tl ((List.range n).map fun k=>t (a+k))):=by
 refine ⟨by rw [tl_len,List.length_map,List.length_range,Nat.mul_one],fun h0=>?_⟩;rw [if_neg (by omega)];refine ⟨_,rfl,Blk.lt h,fun j u hu=>?_⟩;unfold tl at hu;rw [List.map_map,List.getElem?_map] at hu
 have hj:j<n:=by
  rcases Nat.lt_or_ge j n with h9 | h9
  ·exact h9
  ·rw [List.getElem?_eq_none (by rw [List.length_range];omega)] at hu;cases hu
 rw [List.getElem?_range hj] at hu;simp only [Option.map_some,Function.comp,Option.some.injEq] at hu;rw [Ev.add_lit,h.cell (by omega),hu]
theorem freeS_iff (t:Nat->Bool) (a n:Nat):freeS t a n=!decide (true∈(List.range n).map fun k=>t (a+k)):=by
 unfold freeS;rw [Bool.eq_iff_iff,List.all_eq_true,Bool.not_eq_true',decide_eq_false_iff_not,List.mem_map];constructor
 ·rintro h ⟨k,hk,e⟩;have:=h k hk;rw [e] at this
  cases this
 ·intro h k hk
  cases e:t (a+k) with
  | false=>rfl
  | true=>exact absurd ⟨k,hk,e⟩ h
theorem takS_0 (t:Nat->Bool) (a:Nat):takS t a 0=t:=by
 funext j
 unfold takS
 cases t j with
 | true=>rfl
 | false =>
  rw [Bool.false_or,Bool.and_eq_false_iff,decide_eq_false_iff_not,decide_eq_false_iff_not];omega
theorem within_any {w:World} {s:Nat} {b:List UInt8} (hS:SB w s b) (h2:2+2*(b.getD 0 0).toNat<=243) :
 Calls Tryz.prog 201 #[.pointer (some ⟨s,0,none⟩)] w fun e w'=>e=.returned (.bool (decide (2+2*(b.getD 0 0).toNat<=(b.getD 1 0).toNat/\(b.getD 1 0).toNat<=243) && inS b (b.getD 0 0).toNat 0 (fun _=>false)))/\Below w.heap.size w w':=by
 have hL:Hid (∀ W,SB W s b->_):=lH fun W hW=>SLen_any (w:=W) hW;have hT:Hid (∀ W,SB W s b->_):=lH fun W hW=>STop_any (w:=W) hW;have hD:=dir_any (b.getD 0 0).toNat (by omega) w;have hk:(b.getD 1 0).toNat<256:=(b.getD 1 0).toNat_lt
 obtain ⟨t,HT⟩:∃ k,Hid ((b.getD 1 0).toNat=k):=⟨_,lH rfl⟩
 have hin:∀ k i f,inS b (k+1) i f=(decide (t<=atS b i) && decide (atS b i+lnS b i<=243) && decide (lnS b i<=78) && freeS f (atS b i) (lnS b i) && inS b k (i+1) (takS f (atS b i) (lnS b i))):=fun k i f=>by rw [<-HT.out];rfl
 obtain ⟨n,HN⟩:∃ k,Hid ((b.getD 0 0).toNat=k):=⟨_,lH rfl⟩
 obtain ⟨d,HDD⟩:∃ d,Hid (2+2*n=d):=⟨_,lH rfl⟩
 rw [HN.out] at hL h2 hD ⊢;rw [HDD.out] at hD h2 ⊢;rw [HT.out] at hT hk ⊢;have hL0:=hL.out w hS;have hT0:=hT.out w hS;by_cases q1:t<d
 ·have d1:decide (t<d)=true:=dT q1;rw [show decide (d<=t/\t<=243)=false from dF (by omega),Bool.false_and];go_enter Tryz.func201,Tryz.ntmps201
  go_wp2_with (first | (go_at_call 168;refine hL0.mono ?_;rintro e w1 ⟨rfl,rfl⟩) | (go_at_call 184;refine hT0.mono ?_;rintro e w1 ⟨rfl,rfl⟩) | (go_at_call 185;refine hD.mono ?_;rintro e w1 ⟨rfl,rfl⟩))
  go_ret;exact ⟨rfl,bR _ _⟩
 have d1:decide (t<d)=false:=dF q1;by_cases q2:243<t
 ·have d2:decide (243<t)=true:=dT q2;rw [show decide (d<=t/\t<=243)=false from dF (by omega),Bool.false_and];go_enter Tryz.func201,Tryz.ntmps201
  go_wp2_with (first | (go_at_call 168;refine hL0.mono ?_;rintro e w1 ⟨rfl,rfl⟩) | (go_at_call 184;refine hT0.mono ?_;rintro e w1 ⟨rfl,rfl⟩) | (go_at_call 185;refine hD.mono ?_;rintro e w1 ⟨rfl,rfl⟩))
  go_ret;exact ⟨rfl,bR _ _⟩
 have d2:decide (243<t)=false:=dF q2;rw [show decide (d<=t/\t<=243)=true from dT (by omega),Bool.true_and]
 obtain ⟨w1,hw1⟩:∃ w1,w1=w.alloc (.cells Tryz.zeroCells296 296):=⟨_,rfl⟩
 have hb1:Below w.heap.size w w1:=by rw [hw1];exact (bR _ w).alloc (nR _) _
 have hK1:TkB w1 w.heap.size (fun _=>false):=by
  rw [hw1];have:=Blk.new w 296 Tryz.zeroCells296;unfold TkB;rw [show (tl (tkL fun _=>false)).toArray=Tryz.zeroCells296 by kernel_rfl];exact this
 have hS1:=hS.below hb1 hS.lt;have hL1:=hL.out w1 hS1;have hsl:=hS.lt;have HW1:=lH hw1;have HK1:=lH hK1;have HIN:=lH hin;clear hw1 hK1 hin;go_enter Tryz.func201,Tryz.ntmps201
 go_wp2_with (first | (go_at_call 168;refine hL0.mono ?_;rintro e w2 ⟨rfl,rfl⟩) | (go_at_call 184;refine hT0.mono ?_;rintro e w2 ⟨rfl,rfl⟩) | (go_at_call 185;refine hD.mono ?_;rintro e w2 ⟨rfl,rfl⟩) | (rw [<-HW1.out];go_at_call 168;refine hL1.mono ?_;rintro e w2 ⟨rfl,rfl⟩))
 go_loopw [21] (fun i wr=>∃ (k:Nat) (f:Nat->Bool),k<=n/\i=.int .i64 k/\TkB wr w.heap.size f/\inS b n 0 (fun _=>false)=inS b (n-k) k f/\Below w.heap.size w wr) (fun i _=>n-(intOf i).toNat)
 case atStart=>exact ⟨0,_,zL _,rfl,HK1.out,rfl,hb1⟩
 case round =>
  obtain ⟨k,f,hk2,rfl,hTk,hEq,hb⟩:=hrel
  obtain ⟨wo,rfl⟩:∃ wo,wo=wr:=⟨wr,rfl⟩
  by_cases hlt:k<n
  ·have dl:decide (k<n)=true:=dT hlt;have hP:=place_any (hS.below hb hsl) k (by have:=HDD.out;omega);have hp8:atS b k<256:=(b.getD (2+2*k) 0).toNat_lt;have hm8:lnS b k<256:=(b.getD (3+2*k) 0).toNat_lt;have hq:=HIN.out (n-k-1) k f;rw [show n-k-1+1=n-k by omega] at hq
   obtain ⟨p,HP⟩:∃ z,Hid (atS b k=z):=⟨_,lH rfl⟩
   obtain ⟨m,HM⟩:∃ z,Hid (lnS b k=z):=⟨_,lH rfl⟩
   rw [HP.out] at hP hp8 hq;rw [HM.out] at hP hm8 hq;have HE:=lH (hEq.trans hq);have HTK:=lH hTk;clear hEq hq hTk
   have ak:IntKind.i64.wrap ((k:Int)+1)=(k:Int)+1:=by have:=HDD.out;rw [IntKind.wrap_i64];omega
   have a1:IntKind.i64.wrap ((p:Int)+(m:Int))=(p:Int)+(m:Int):=by rw [IntKind.wrap_i64];omega
   by_cases c1:p<t
   ·have e1:decide (p<t)=true:=dT c1
    have hf:inS b n 0 (fun _=>false)=false:=by rw [HE.out,dF (by omega)];rfl
    have HF:=lH hf;clear hf
    go_wp2_with (first
     | (go_at_call 188;refine hP.mono ?_;rintro e w2 ⟨rfl,hb2⟩;have hb02:=hb.trans (hb2.mono hb.size);have hT2:=hT.out w2 (hS.below hb02 hsl))
     | (go_at_call 184;refine hT2.mono ?_;rintro e w3 ⟨rfl,h3⟩;have h3:=h3.symm;subst h3))
    go_ret;exact ⟨by rw [HF.out];rfl,hb02⟩
   have e1:decide (p<t)=false:=dF c1;by_cases c2:243<p+m
   ·have e2:decide (243<(p:Int)+(m:Int))=true:=dT (by omega)
    have hf:inS b n 0 (fun _=>false)=false:=by rw [HE.out,dF (show ¬ p+m<=243 by omega)];simp
    have HF:=lH hf;clear hf
    go_wp2_with (first
     | (go_at_call 188;refine hP.mono ?_;rintro e w2 ⟨rfl,hb2⟩;have hb02:=hb.trans (hb2.mono hb.size);have hT2:=hT.out w2 (hS.below hb02 hsl))
     | (go_at_call 184;refine hT2.mono ?_;rintro e w3 ⟨rfl,h3⟩;have h3:=h3.symm;subst h3))
    go_ret;exact ⟨by rw [HF.out];rfl,hb02⟩
   have e2:decide (243<(p:Int)+(m:Int))=false:=dF (by omega);by_cases c3:78<m
   ·have e3:decide (78<m)=true:=dT c3
    have hf:inS b n 0 (fun _=>false)=false:=by rw [HE.out,dF (show ¬ m<=78 by omega)];simp
    have HF:=lH hf;clear hf
    go_wp2_with (first
     | (go_at_call 188;refine hP.mono ?_;rintro e w2 ⟨rfl,hb2⟩;have hb02:=hb.trans (hb2.mono hb.size);have hT2:=hT.out w2 (hS.below hb02 hsl))
     | (go_at_call 184;refine hT2.mono ?_;rintro e w3 ⟨rfl,h3⟩;have h3:=h3.symm;subst h3))
    go_ret;exact ⟨by rw [HF.out];rfl,hb02⟩
   have e3:decide (78<m)=false:=dF c3
   have b1:(0:Int)<=(p:Int):=by omega
   have b2:(p:Int)<=(p:Int)+(m:Int):=by omega
   have b3:(p:Int)+(m:Int)<=243:=by omega
   have b4:((p:Int)+(m:Int)).toNat=p+m:=by omega
   have b5:¬ (p:Int)+(m:Int)<0:=by omega
   obtain ⟨lb,HLB⟩:∃ z,Hid ((List.range m).map (fun k=>f (p+k))=z):=⟨_,lH rfl⟩
   have hlb:lb.length=m:=by rw [<-HLB.out,List.length_map,List.length_range]
   have hBH:=fun W (hW:TkB W w.heap.size f)=>BHas_any (B:=W.heap.size) (some (if 243=p then ⟨w.heap.size,0,none⟩ else ⟨w.heap.size,p,none⟩)) (243-p) lb W (by rw [<-HLB.out,List.length_map,List.length_range];exact hW.reads (by omega)) (by omega);have hfr:=freeS_iff f p m;rw [HLB.out] at hfr
   obtain ⟨q,HQ⟩:∃ z,Hid (decide (true∈lb)=z):=⟨_,lH rfl⟩
   rw [HQ.out] at hBH hfr;rw [hlb] at hBH;have HFR:=lH hfr;clear hfr
   cases q with
   | true =>
    have hf:inS b n 0 (fun _=>false)=false:=by rw [HE.out,HFR.out];simp
    have HF:=lH hf;clear hf
    go_wp2_with (first
     | (go_at_call 188;refine hP.mono ?_;rintro e w2 ⟨rfl,hb2⟩;have hb02:=hb.trans (hb2.mono hb.size);have hT2:=hT.out w2 (hS.below hb02 hsl);have hK2:=HTK.out.below hb2 (Blk.lt HTK.out);have hB2:=hBH w2 hK2)
     | (go_at_call 184;refine hT2.mono ?_;rintro e w3 ⟨rfl,h3⟩;have h3:=h3.symm;subst h3)
     | (go_at_call 216;refine hB2.mono ?_;rintro e w3 ⟨rfl,h3⟩;subst h3))
    all_goals
     go_ret;exact ⟨by rw [HF.out];rfl,hb02⟩
   | false =>
    have hok:inS b n 0 (fun _=>false)=inS b (n-k-1) (k+1) (takS f p m):=by rw [HE.out,HFR.out,dT (show t<=p by omega),dT (show p+m<=243 by omega),dT (show m<=78 by omega)];simp
    have HF:=lH hok;clear hok;by_cases cp:243=p
    ·simp only [if_pos cp] at hBH
     have hm0:m=0:=by omega
     subst hm0;subst cp
     go_wp2_with (first
      | (go_at_call 188;refine hP.mono ?_;rintro e w2 ⟨rfl,hb2⟩;have hb02:=hb.trans (hb2.mono hb.size);have hT2:=hT.out w2 (hS.below hb02 hsl);have hK2:=HTK.out.below hb2 (Blk.lt HTK.out);have hB2:=hBH w2 hK2)
      | (go_at_call 184;refine hT2.mono ?_;rintro e w3 ⟨rfl,h3⟩;have h3:=h3.symm;subst h3)
      | (go_at_call 216;refine hB2.mono ?_;rintro e w3 ⟨rfl,h3⟩;subst h3))
     refine wp_loop_rounds 1 ?_;rw [rounds_succ];go_wp2
     go_roundw
     case rel=>exact ⟨k+1,takS f 243 0,by omega,by go_num,by rw [takS_0];exact hK2,by rw [HF.out,show n-(k+1)=n-k-1 by omega],hb02⟩
     case measure=>simp [intOf];omega
    ·simp only [if_neg cp] at hBH
     go_wp2_with (first
      | (go_at_call 188;refine hP.mono ?_;rintro e w2 ⟨rfl,hb2⟩;have hb02:=hb.trans (hb2.mono hb.size);have hT2:=hT.out w2 (hS.below hb02 hsl);have hK2:=HTK.out.below hb2 (Blk.lt HTK.out);have hB2:=hBH w2 hK2)
      | (go_at_call 184;refine hT2.mono ?_;rintro e w3 ⟨rfl,h3⟩;have h3:=h3.symm;subst h3)
      | (go_at_call 216;refine hB2.mono ?_;rintro e w3 ⟨rfl,h3⟩;subst h3))
     go_loopw [53] (fun i wr=>∃ j:Nat,j<=m/\i=.int .i64 j/\TkB wr w.heap.size (takS f p j)/\Below w.heap.size w wr) (fun i _=>m-(intOf i).toNat)
     case atStart=>exact ⟨0,zL _,rfl,by rw [takS_0];exact hK2,hb02⟩
     case round =>
      obtain ⟨j,hj,rfl,hTj,hbj⟩:=hrel
      obtain ⟨wp,rfl⟩:∃ wp,wp=wr:=⟨wr,rfl⟩
      by_cases hjm:j<m
      ·have dj:decide (j<m)=true:=dT hjm
       have aj:IntKind.i64.wrap ((j:Int)+1)=(j:Int)+1:=by rw [IntKind.wrap_i64];omega
       have g1:IntKind.i64.wrap ((p:Int)+(j:Int))=(p:Int)+(j:Int):=by rw [IntKind.wrap_i64];omega
       have g2:(0:Int)<=(p:Int)+(j:Int):=by omega
       have g3:(p:Int)+(j:Int)<243:=by omega
       have g4:((p:Int)+(j:Int)).toNat=p+j:=by omega
       have g5:¬ (p:Int)+(j:Int)<0:=by omega
       have gc:=hTj.cell (j:=p+j) (by omega)
       obtain ⟨bv,hbv⟩:∃ z,takS f p j (p+j)=z:=⟨_,rfl⟩
       rw [hbv] at gc;clear hbv;have gf:=Blk.frozen hTj (p+j);have HTJ:=lH hTj;clear hTj;go_wp2
       go_roundw
       case rel=>exact ⟨j+1,by omega,by go_num,HTJ.out.step (by omega),hbj.setCell (p:=⟨w.heap.size,p+j,none⟩) (nR _) _⟩
       case measure=>simp [intOf];omega
      ·have dj:decide (j<m)=false:=dF hjm
       obtain rfl:j=m:=by omega
       go_wp2
       go_roundw
       case rel=>exact ⟨k+1,takS f p j,by omega,by go_num,hTj,by rw [HF.out,show n-(k+1)=n-k-1 by omega],hbj⟩
       case measure=>simp [intOf];omega
  ·have dl:decide (k<n)=false:=dF hlt
   obtain rfl:k=n:=by omega
   rw [Nat.sub_self] at hEq;have HF:=lH (hEq.trans (show inS b 0 k f=true from rfl));clear hEq;go_wp2;go_ret;exact ⟨by rw [HF.out];rfl,hb⟩
def ParseR (b:List UInt8) (B:Nat) (e:Ending) (w':World):Prop :=
 if (parseS b).isSome=true then ∃ s,e=.returned (.tuple #[.pointer (some ⟨s,0,none⟩),.int .i64 0])/\SB w' s b/\B<=s else e=.returned (.tuple #[.pointer none,.int .i64 61])
theorem parse_some {b:List UInt8} (hl:b.length=243):(parseS b).isSome=(decide (2+2*(b.getD 0 0).toNat<=243) && (decide (2+2*(b.getD 0 0).toNat<=(b.getD 1 0).toNat/\(b.getD 1 0).toNat<=243) && inS b (b.getD 0 0).toNat 0 (fun _=>false))):=by
 unfold parseS
 split
 ·rename_i h;rw [dT h.2.1,dT ⟨h.2.2.1,h.2.2.2.1⟩,h.2.2.2.2];rfl
 ·rename_i h
  symm
  show _=false;rw [Bool.eq_false_iff];intro h9;simp only [Bool.and_eq_true,decide_eq_true_eq] at h9;exact h ⟨hl,h9.1,h9.2.1.1,h9.2.1.2,h9.2.2⟩
theorem Parse_any {B:Nat} (a:Addr) (c:Nat) (b:List UInt8) (w:World) (hB:B<=w.heap.size) (hr:Reads w B 1 (some a) b.length (bl b)) (hl:b.length=243) :
 Calls Tryz.prog 167 #[.slice (some a) 243 c] w fun e w'=>ParseR b w.heap.size e w'/\Below w.heap.size w w':=by
 obtain ⟨w1,hw1⟩:∃ w1,w1=w.alloc (.cells Tryz.zeroCells273 273):=⟨_,rfl⟩
 have hb1:Below w.heap.size w w1:=by rw [hw1];exact (bR _ w).alloc (nR _) _
 have hz:(bl (zB 243)).toArray=Tryz.zeroCells273:=by kernel_rfl
 have hK1:Blk w1 w.heap.size 273 (bl (zB 243)).toArray:=by rw [hw1,hz];exact Blk.new w 273 Tryz.zeroCells273
 have hr1:Reads w1 B 1 (some a) 243 (bl b):=by have:=hr.below (hb1.mono hB);rwa [hl] at this
 have hspl:spl (zB 243) 0 b=b:=by unfold spl;simp [hl,zB]
 have hL:Hid (∀ W s,SB W s b->_):=lH fun W s hW=>SLen_any (w:=W) (s:=s) hW;have hps:=parse_some hl;have hI:Hid (∀ W s,SB W s b->2+2*(b.getD 0 0).toNat<=243->_):=lH fun W s hW h=>within_any (w:=W) (s:=s) hW h;have hn8:(b.getD 0 0).toNat<256:=(b.getD 0 0).toNat_lt;unfold ParseR;rw [hps]
 obtain ⟨q,HQ⟩:∃ q,Hid ((decide (2+2*(b.getD 0 0).toNat<=(b.getD 1 0).toNat/\(b.getD 1 0).toNat<=243) && inS b (b.getD 0 0).toNat 0 (fun _=>false))=q):=⟨_,lH rfl⟩
 rw [HQ.out] at hI ⊢
 obtain ⟨n,HN⟩:∃ k,Hid ((b.getD 0 0).toNat=k):=⟨_,lH rfl⟩
 rw [HN.out] at hL hI hn8 ⊢;have hD:=fun W=>dir_any n (by omega) W
 obtain ⟨d,HDD⟩:∃ d,Hid (2+2*n=d):=⟨_,lH rfl⟩
 rw [HDD.out] at hI hD ⊢;have HW1:=lH hw1;have HK1:=lH hK1;clear hw1 hK1 hps hz hr;by_cases c1:d<=243
 ·have d1:decide (243<d)=false:=dF (by omega);rw [dT c1,Bool.true_and]
  cases q with
  | true =>
   simp only [if_true];go_enter Tryz.func167,Tryz.ntmps167
   go_wp2_with (first
    | (rw [<-HW1.out];refine list_cpB rfl _ _ rfl rfl rfl w.heap.size 0 273 (zB 243) b HK1.out rfl hr1 (by omega) (by simp [zB]) hb1 (nR _) ?_;intro w2 hK2 hb2;rw [hspl] at hK2;have hS2:SB w2 w.heap.size b:=⟨hK2,hl⟩;have hL2:=hL.out w2 _ hS2;have hI2:=hI.out w2 _ hS2 c1)
    | (go_at_call 168;refine hL2.mono ?_;rintro e w3 ⟨rfl,h3⟩;have h3:=h3.symm;subst h3)
    | (go_at_call 185;refine (hD _).mono ?_;rintro e w3 ⟨rfl,h3⟩;have h3:=h3.symm;subst h3)
    | (go_at_call 201;refine hI2.mono ?_;rintro e w4 ⟨rfl,hb4⟩))
   go_ret2;exact ⟨⟨_,rfl,hS2.below hb4 hS2.lt,nR _⟩,hb2.trans (hb4.mono hb2.size)⟩
  | false =>
   simp only [Bool.false_eq_true,if_false];go_enter Tryz.func167,Tryz.ntmps167
   go_wp2_with (first
    | (rw [<-HW1.out];refine list_cpB rfl _ _ rfl rfl rfl w.heap.size 0 273 (zB 243) b HK1.out rfl hr1 (by omega) (by simp [zB]) hb1 (nR _) ?_;intro w2 hK2 hb2;rw [hspl] at hK2;have hS2:SB w2 w.heap.size b:=⟨hK2,hl⟩;have hL2:=hL.out w2 _ hS2;have hI2:=hI.out w2 _ hS2 c1)
    | (go_at_call 168;refine hL2.mono ?_;rintro e w3 ⟨rfl,h3⟩;have h3:=h3.symm;subst h3)
    | (go_at_call 185;refine (hD _).mono ?_;rintro e w3 ⟨rfl,h3⟩;have h3:=h3.symm;subst h3)
    | (go_at_call 201;refine hI2.mono ?_;rintro e w4 ⟨rfl,hb4⟩))
   go_ret2;exact ⟨rfl,hb2.trans (hb4.mono hb2.size)⟩
 ·have d1:decide (243<d)=true:=dT (by omega);rw [dF c1,Bool.false_and];simp only [Bool.false_eq_true,if_false];go_enter Tryz.func167,Tryz.ntmps167
  go_wp2_with (first
   | (rw [<-HW1.out];refine list_cpB rfl _ _ rfl rfl rfl w.heap.size 0 273 (zB 243) b HK1.out rfl hr1 (by omega) (by simp [zB]) hb1 (nR _) ?_;intro w2 hK2 hb2;rw [hspl] at hK2;have hS2:SB w2 w.heap.size b:=⟨hK2,hl⟩;have hL2:=hL.out w2 _ hS2)
   | (go_at_call 168;refine hL2.mono ?_;rintro e w3 ⟨rfl,h3⟩;have h3:=h3.symm;subst h3)
   | (go_at_call 185;refine (hD _).mono ?_;rintro e w3 ⟨rfl,h3⟩;have h3:=h3.symm;subst h3))
  go_ret2;exact ⟨rfl,hb2⟩
theorem own_lowN {W:World} {base base' e s n:Nat} {v:Value} {xs:List Value} (h:W.ownsRow base e s v n xs) (hb:base'<=base):W.ownsRow base' e s v n xs :=
 ⟨h.1,h.2.imp id fun ⟨g,cap,cur,e1,e2,r⟩=>⟨g,cap,cur,e1,nT hb e2,r⟩⟩
theorem SB.reads {w:World} {s:Nat} {b:List UInt8} (h:SB w s b) {p m:Nat} (hp:p+m<=243):Reads w w.heap.size 1 (some (if 243=p then ⟨s,0,none⟩ else ⟨s,p,none⟩)) m (bl ((b.drop p).take m)):=by
 have hl:((b.drop p).take m).length=m:=by rw [lK,lD,h.2];omega
 refine ⟨by rw [bl_len,hl,Nat.mul_one],fun h0=>?_⟩;rw [if_neg (by omega)];refine ⟨_,rfl,h.lt,fun j u hu=>?_⟩
 have hj:j<m:=by
  rcases Nat.lt_or_ge j m with h9 | h9
  ·exact h9
  ·rw [List.getElem?_eq_none (by rw [bl_len,hl];omega)] at hu;cases hu
 rw [Ev.add_lit,h.cell (by omega),<-hu];unfold bl;rw [List.getElem?_map,List.getElem?_take,if_pos hj,List.getElem?_drop,gE (show p+j<b.length by rw [h.2];omega),List.getD_eq_getElem?_getD,gE (show p+j<b.length by rw [h.2];omega)];rfl
theorem SCell_any {w:World} {s:Nat} {b:List UInt8} (hS:SB w s b) (i:Nat) (hi:i<(b.getD 0 0).toNat) (h2:2+2*(b.getD 0 0).toNat<=243) (h3:atS b i+lnS b i<=243) :
 Calls Tryz.prog 169 #[.pointer (some ⟨s,0,none⟩),.int .i64 i] w fun e w'=>∃ A c,e=.returned (.slice A (cellS b i).length c)/\w'.ownsRow w.heap.size 5 1 (.slice A (cellS b i).length c) (cellS b i).length (bl (cellS b i))/\Below w.heap.size w w':=by
 have hL:=SLen_any hS;have hP:=place_any hS i (by omega)
 have hlen:(cellS b i).length=lnS b i:=by unfold cellS;rw [lK,lD,hS.2];omega
 rw [hlen];unfold cellS
 obtain ⟨n,HN⟩:∃ k,Hid ((b.getD 0 0).toNat=k):=⟨_,lH rfl⟩
 obtain ⟨p,HP⟩:∃ k,Hid (atS b i=k):=⟨_,lH rfl⟩
 obtain ⟨m,HM⟩:∃ k,Hid (lnS b i=k):=⟨_,lH rfl⟩
 rw [HN.out] at hL hi h2;rw [HP.out] at hP h3 ⊢;rw [HM.out] at hP h3 ⊢;have d1:decide (n<=i)=false:=dF (by omega)
 have a1:IntKind.i64.wrap ((p:Int)+(m:Int))=(p:Int)+(m:Int):=by rw [IntKind.wrap_i64];omega
 have b1:(0:Int)<=(p:Int):=by omega
 have b2:(p:Int)<=(p:Int)+(m:Int):=by omega
 have b3:(p:Int)+(m:Int)<=243:=by omega
 have b4:((p:Int)+(m:Int)).toNat=p+m:=by omega
 have hC:=fun W (hW:SB W s b)=>BClone_some (B:=W.heap.size) (n:=m) (if 243=p then ⟨s,0,none⟩ else ⟨s,p,none⟩) (243-p) _ (bl_one _) W (hW.reads h3) (nR _) (by omega)
 obtain ⟨r,HR⟩:∃ r,Hid ((b.drop p).take m=r):=⟨_,lH rfl⟩
 rw [HR.out] at hC ⊢;have hsl:=hS.lt;have HS:=lH hS;clear hS;by_cases cp:243=p
 ·simp only [if_pos cp] at hC
  have hm0:m=0:=by omega
  subst hm0;subst cp;go_enter Tryz.func169,Tryz.ntmps169
  go_wp2_with (first
   | (go_at_call 168;refine hL.mono ?_;rintro e w3 ⟨rfl,h3⟩;have h3:=h3.symm;subst h3)
   | (go_at_call 188;refine hP.mono ?_;rintro e w2 ⟨rfl,hb2⟩;have hC2:=hC w2 (HS.out.below hb2 hsl))
   | (go_at_call 68;refine hC2.mono ?_;rintro e w4 ⟨A,c,rfl,ho,hb4⟩))
  go_ret;exact ⟨A,c,rfl,own_lowN ho hb2.size,hb2.trans (hb4.mono hb2.size)⟩
 ·simp only [if_neg cp] at hC;go_enter Tryz.func169,Tryz.ntmps169
  go_wp2_with (first
   | (go_at_call 168;refine hL.mono ?_;rintro e w3 ⟨rfl,h3⟩;have h3:=h3.symm;subst h3)
   | (go_at_call 188;refine hP.mono ?_;rintro e w2 ⟨rfl,hb2⟩;have hC2:=hC w2 (HS.out.below hb2 hsl))
   | (go_at_call 68;refine hC2.mono ?_;rintro e w4 ⟨A,c,rfl,ho,hb4⟩))
  go_ret;exact ⟨A,c,rfl,own_lowN ho hb2.size,hb2.trans (hb4.mono hb2.size)⟩
def CutR (B:Nat) (w:World) (g:Nat) (r:List UInt8) (n:Nat) (e:Ending) (w':World):Prop:=∃ A1 A2 c2,e=.returned (.slice A1 (r.take n).length (r.take n).length)/\Reads w B 1 A1 (r.take n).length (bl (r.take n))/\(r.drop n).length<=c2/\Reads w B 1 A2 (r.drop n).length (bl (r.drop n))/\w'=w.setCell ⟨g,0,none⟩ (.slice A2 (r.drop n).length c2)
theorem cut_any {B:Nat} {w:World} {g:Nat} {A:Option Addr} {c:Nat} {r:List UInt8} (hK:Blk w g 23 #[.slice A r.length c]) (hr:Reads w B 1 A r.length (bl r)) (hc:r.length<=c) (hl:r.length<=1000) (n:Nat) (hn:n<=100000) :
 Calls Tryz.prog 218 #[.int .i64 n,.pointer (some ⟨g,0,none⟩)] w fun e w'=>CutR B w g r n e w':=by
 have hcell:w.cell? ⟨g,0,none⟩=some (.slice A r.length c):=hK.cell 0;have hf:=hK.frozen 0;have HR:=lH hr;clear hr
 cases A with
 | none =>
  have h0:r=[]:=by
   rcases Nat.eq_zero_or_pos r.length with h9 | h9
   ·exact List.length_eq_zero_iff.1 h9
   ·obtain ⟨ad,e,_⟩:=HR.out.2 h9;cases e
  subst h0;by_cases hn0:n=0
  ·subst hn0;go_enter Tryz.func218,Tryz.ntmps218;go_wp2;go_ret;exact ⟨none,none,c,by rw [List.take_nil];rfl,by rw [List.take_nil];exact Reads.none_,by rw [List.drop_nil];exact zL _,by rw [List.drop_nil];exact Reads.none_,by rw [List.drop_nil];rfl⟩
  ·have n1:¬ (n:Int)<0:=by omega
   have n2:¬ (n:Int)<=0:=by omega
   have n3:min (n:Int) 0=0:=by omega
   have n4:(0:Int)<(n:Int):=by omega
   go_enter Tryz.func218,Tryz.ntmps218;go_wp2
   all_goals
    go_ret;exact ⟨none,none,c,by rw [List.take_nil];rfl,by rw [List.take_nil];exact Reads.none_,by rw [List.drop_nil];exact zL _,by rw [List.drop_nil];exact Reads.none_,by rw [List.drop_nil];rfl⟩
 | some a =>
  by_cases c1:n<r.length
  ·have e1:(r.take n).length=n:=by rw [lK];omega
   have e2:(r.drop n).length=r.length-n:=lD
   have n1:¬ (r.length:Int)<(n:Int):=by omega
   have n2:(n:Int)<=(r.length:Int):=by omega
   have n3:min (n:Int) (r.length:Int)=(n:Int):=by omega
   have n4:(n:Int)<(r.length:Int):=by omega
   have n5:(0:Int)<=(n:Int):=by omega
   have n6:(n:Int)<=(c:Int):=by omega
   have n7:¬ c=n:=by omega
   have n8:¬ c-n=0:=by omega
   have n9:(r.length:Int)<=(c:Int):=by omega
   go_enter Tryz.func218,Tryz.ntmps218;go_wp2;go_ret;unfold CutR;rw [e1,e2];exact ⟨some a,some (a.add n),c-n,rfl,by have:=reads_take HR.out (n:=n) (by omega);exact this,by omega,reads_drop (m:=n) (n:=r.length-n) HR.out (by omega),rfl⟩
  ·have e1:(r.take n).length=r.length:=by rw [lK];omega
   have e2:(r.drop n).length=0:=by rw [lD];omega
   have e3:r.take n=r:=List.take_of_length_le (by omega)
   have n2:(r.length:Int)<=(n:Int):=by omega
   have n3:min (n:Int) (r.length:Int)=(r.length:Int):=by omega
   have n4:¬ (n:Int)<(r.length:Int):=by omega
   have n6:(r.length:Int)<=(c:Int):=by omega
   have hz:∀ (A:Option Addr),Reads w B 1 A 0 (bl (r.drop n)):=fun A=>⟨by rw [bl_len,e2],fun h=>absurd h (Nat.lt_irrefl 0)⟩
   by_cases hnr:n=r.length
   ·subst hnr;go_enter Tryz.func218,Tryz.ntmps218;go_wp2
    all_goals
     go_ret;unfold CutR;rw [e1,e2,e3];exact ⟨some a,_,_,rfl,HR.out,zL _,hz _,rfl⟩
   ·have n5:¬ (n:Int)<=(r.length:Int):=by omega
    have n7:(r.length:Int)<(n:Int):=by omega
    go_enter Tryz.func218,Tryz.ntmps218;go_wp2
    all_goals
     go_ret;unfold CutR;rw [e1,e2,e3];exact ⟨some a,_,_,rfl,HR.out,zL _,hz _,rfl⟩
def closC (g:Nat):Value:=.func (.func 218) #[] #[.pointer (some ⟨g,0,none⟩)]
theorem cutter_any (A:Option Addr) (n c:Nat) (w:World):Calls Tryz.prog 204 #[.slice A n c] w fun e w'=>e=.returned (closC w.heap.size)/\w'=w.alloc (.cells #[.slice A n c] 23):=by
 go_enter Tryz.func204,Tryz.ntmps204;go_wp2;go_ret;exact ⟨rfl,rfl⟩
theorem own_setN {W:World} {base n size:Nat} {e:TypeId} {A:Option Addr} {c:Nat} {xs:List Value} (h:W.ownsRow base e size (.slice A n c) n xs) {p:Addr} {u:Value} (hp:∀ ad,A=some ad->ad.block≠p.block):(W.setCell p u).ownsRow base e size (.slice A n c) n xs:=by
 refine ⟨h.1,h.2.imp id ?_⟩;rintro ⟨g,cap,cur,e1,e2,e3,r⟩;simp only [Value.slice.injEq] at e1;exact ⟨g,cap,cur,by simpa using e1,e2,(Below.heap_setCell W p u g (hp _ e1.1)).trans e3,r⟩
theorem own_sameN {W W':World} {base n size:Nat} {e:TypeId} {A:Option Addr} {c:Nat} {xs:List Value} (h:W.ownsRow base e size (.slice A n c) n xs) (hb:∀ ad,A=some ad->W'.heap[ad.block]?=W.heap[ad.block]?):W'.ownsRow base e size (.slice A n c) n xs:=by
 refine ⟨h.1,h.2.imp id ?_⟩;rintro ⟨g,cap,cur,e1,e2,e3,r⟩;simp only [Value.slice.injEq] at e1;exact ⟨g,cap,cur,by simpa using e1,e2,(hb _ e1.1).trans e3,r⟩
theorem own_belN {W W':World} {base n size:Nat} {e:TypeId} {A:Option Addr} {c:Nat} {xs:List Value} (h:W.ownsRow base e size (.slice A n c) n xs) (hb:Below W.heap.size W W'):W'.ownsRow base e size (.slice A n c) n xs:=by
 refine ⟨h.1,h.2.imp id ?_⟩;rintro ⟨g,cap,cur,e1,e2,e3,r⟩;exact ⟨g,cap,cur,e1,e2,(hb.block g (aS.1 e3).1).trans e3,r⟩
def OwnB (w:World) (B:Nat) (A:Option Addr) (c:Nat) (b:List UInt8):Prop:=w.ownsRow B 5 1 (.slice A b.length c) b.length (bl b)
theorem OwnB.nil (w:World) (B c:Nat):OwnB w B none 0 []:=World.ownsRow_nil _ _ _ _
theorem OwnB.rd {w:World} {B:Nat} {A:Option Addr} {c:Nat} {b:List UInt8} (h:OwnB w B A c b):Reads w w.heap.size 1 A b.length (bl b):=Reads.of_own h
theorem OwnB.lo {w:World} {B B':Nat} {A:Option Addr} {c:Nat} {b:List UInt8} (h:OwnB w B A c b) (hB:B'<=B):OwnB w B' A c b:=own_le h hB
theorem OwnB.ge {w:World} {B:Nat} {A:Option Addr} {c:Nat} {b:List UInt8} (h:OwnB w B A c b):∀ ad,A=some ad->B<=ad.block:=own_ge h
theorem OwnB.below {w w':World} {B:Nat} {A:Option Addr} {c:Nat} {b:List UInt8} (h:OwnB w B A c b) (hb:Below w.heap.size w w'):OwnB w' B A c b:=own_belN h hb
theorem OwnB.fr {w w':World} {B:Nat} {A:Option Addr} {c:Nat} {b:List UInt8} {X:Nat->Prop} (h:OwnB w B A c b) (hf:Fr X w w') (hX:∀ k,X k->k<B):OwnB w' B A c b:=by
 refine ⟨h.1,h.2.imp id ?_⟩;rintro ⟨g,cap,cur,e1,e2,e3,r⟩;exact ⟨g,cap,cur,e1,e2,(hf.block g (aS.1 e3).1 (fun hx=>by have:=hX g hx;omega)).trans e3,r⟩
theorem BClone_any {B:Nat} (A:Option Addr) (c:Nat) (b:List UInt8) (w:World) (hr:Reads w B 1 A b.length (bl b)) (hB:B<=w.heap.size) (hl:b.length<=4000000) :
 Calls Tryz.prog 68 #[.slice A b.length c] w fun e w'=>∃ A' c',e=.returned (.slice A' b.length c')/\w'.ownsRow w.heap.size 5 1 (.slice A' b.length c') b.length (bl b)/\Below w.heap.size w w':=by
 cases A with
 | some a=>exact BClone_some a c (bl b) (bl_one _) w hr hB hl
 | none =>
  have h0:b=[]:=by
   rcases Nat.eq_zero_or_pos b.length with h9 | h9
   ·exact List.length_eq_zero_iff.1 h9
   ·obtain ⟨ad,e,_⟩:=hr.2 h9;cases e
  subst h0
  have hnil:∀ W:World,(binOp .eql 23 (.slice none 0 c) (.slice none 0 0)).run Tryz.prog W=.ok (.bool true) W:=fun W=>(by first | exact Lib.run_eql_slice_nil W 23 5 _ _ _ _ _ Tryz.underlying23 | exact Lib.run_eql_slice_nil W 23 5 _ _ _ _ Tryz.underlying23)
  go_enter Tryz.func68,Tryz.ntmps68;go_wp2;go_ret;exact ⟨_,_,rfl,World.ownsRow_nil _ _ _ _,bR _ _⟩
theorem cut_let {B:Nat} {w:World} {g:Nat} {A:Option Addr} {c:Nat} {r:List UInt8} (hK:Blk w g 23 #[.slice A r.length c]) (hr:Reads w B 1 A r.length (bl r)) (hc:r.length<=c) (hl:r.length<=1000) (n:Nat) (hn:n<=100000) (hB:B<=g) :
 Calls Tryz.prog 218 #[.int .i64 n,.pointer (some ⟨g,0,none⟩)] w fun e w'=>∃ p q A1 A2 c2,Hid (p=r.take n/\q=r.drop n)/\e=.returned (.slice A1 p.length p.length)/\Reads w' B 1 A1 p.length (bl p)/\q.length<=c2/\Reads w' B 1 A2 q.length (bl q)/\Blk w' g 23 #[.slice A2 q.length c2]/\Below g w w'/\Fr (fun k=>k=g) w w':=by
 refine (cut_any hK hr hc hl n hn).mono ?_;rintro e w' ⟨A1,A2,c2,rfl,h1,h2,h3,rfl⟩;have hb:Below g w (w.setCell ⟨g,0,none⟩ (.slice A2 (r.drop n).length c2)):=(bR g w).setCell (p:=⟨g,0,none⟩) (nR _) _;exact ⟨r.take n,r.drop n,A1,A2,c2,lH ⟨rfl,rfl⟩,rfl,h1.below (hb.mono hB),h2,h3.below (hb.mono hB),hK.set_ 0 _,hb,(Fr.refl (fun k=>k=g) w).setCell (p:=⟨g,0,none⟩) (.inr rfl) _⟩
def CellR (g:Option PC) (B:Nat) (e:Ending) (w':World):Prop:=match g with
 | none=>e=.returned (.tuple #[cellV none 0 0 0 none 0 0 0 0,.int .i64 70])
 | some p=>∃ y:CX,y.c=p/\e=.returned (.tuple #[y.val,.int .i64 0])/\OwnB w' B y.ka y.kc p.key/\OwnB w' B y.va y.vc p.val
theorem GetInner_any {B:Nat} (A:Option Addr) (c:Nat) (b:List UInt8) (w:World) (hB:B<=w.heap.size) (hr:Reads w B 1 A b.length (bl b)) (hc:b.length<=c) (hl:b.length<=1000) :
 Calls Tryz.prog 173 #[.slice A b.length c] w fun e w'=>CellR (innerG b) w.heap.size e w'/\Below w.heap.size w w':=by
 obtain ⟨w0,hw0⟩:∃ w0,w0=w.alloc (.cells #[.slice none 0 0,.int .i64 0,.slice none 0 0,.int .u32 0,.int .u32 0] 113):=⟨_,rfl⟩
 have hb0:Below w.heap.size w w0:=by rw [hw0];exact (bR _ w).alloc (nR _) _
 have hZ0:Blk w0 w.heap.size 113 #[.slice none 0 0,.int .i64 0,.slice none 0 0,.int .u32 0,.int .u32 0]:=by rw [hw0];exact Blk.new _ _ _
 have hCu:=cutter_any A b.length c w0
 obtain ⟨w1,hw1⟩:∃ w1,w1=w0.alloc (.cells #[.slice A b.length c] 23):=⟨_,rfl⟩
 have hb1:Below w0.heap.size w0 w1:=by rw [hw1];exact (bR _ w0).alloc (nR _) _
 have hK1:Blk w1 w0.heap.size 23 #[.slice A b.length c]:=by rw [hw1];exact Blk.new _ _ _
 rw [<-hw1] at hCu
 obtain ⟨g,HG⟩:∃ g,Hid (w0.heap.size=g):=⟨_,lH rfl⟩
 rw [HG.out] at hCu hK1;have hb01:Below w.heap.size w w1:=hb0.trans (hb1.mono hb0.size)
 have hg0:w.heap.size<=g:=by have:=HG.out;have:=hb0.size;omega
 have hBg:B<=g:=nT hB hg0;have hC1:=cut_let hK1 (hr.below (hb01.mono hB)) hc hl 4 (by omega) hBg;unfold closC at hCu;have HW0:=lH hw0;clear hw0 hw1
 cases hd:b.drop 4 with
 | nil =>
  go_enter Tryz.func173,Tryz.ntmps173
  go_wp2_with (first
   | (go_at_call 113;refine (hN _ hkR).mono ?_;rintro e w5 ⟨rfl,h5⟩;subst h5)
   | (go_at_call 218;refine hC2.mono ?_;rintro e w4 ⟨nb,r1,A3,A4,c4,HP2,rfl,hnR,hc4,hrR,hK4,hb4,hf4⟩;have hkR:=hk3.below (hb4.mono hBg);have hk8:kb.length<=4:=(by rw [HP1.out.1,lK];omega);have hN:=fun W (hW:Reads W B 1 A1 kb.length (bl kb))=>Number_any A1 kb.length kb W hW (by omega);have hlt:numN kb<4294967296:=(lT (numN_lt kb) (nT (Nat.pow_le_pow_right (by decide) hk8) (by decide)));obtain ⟨kd,HKD⟩:∃ k,Hid (numN kb=k):=⟨_,lH rfl⟩;rw [HKD.out] at hN hlt;have cv:IntKind.u32.wrap (kd:Int)=(kd:Int):=(by rw [IntKind.wrap_u32];omega);clear hC2 hK3 hk3 hr2;have hn4:((nb.length:Int)==1)=false:=(by have e:=HP2.out.1;rw [HP1.out.2,hd] at e;rw [e];rfl))
   | (go_at_call 218;refine hC1.mono ?_;rintro e w3 ⟨kb,r0,A1,A2,c2,HP1,rfl,hk3,hc2,hr2,hK3,hb3,hf3⟩;have hC2:=cut_let hK3 hr2 hc2 (by rw [HP1.out.2,lD];omega) 1 (by omega) hBg;clear hC1)
   | (rw [<-HW0.out];go_at_call 204;refine hCu.mono ?_;rintro e w2 ⟨rfl,h2⟩;have h2:=h2.symm;subst h2))
  obtain ⟨wf,hwf⟩:∃ w6,w6=(w4.alloc (.cells #[.slice none 0 0,.int .i64 0,.slice none 0 0,.int .u32 0,.int .u32 (kd:Nat)] 113)):=⟨_,rfl⟩
  have hb6:Below w4.heap.size w4 wf:=by rw [hwf];exact (bR _ _).alloc (nR _) _
  have ZF:Blk wf w4.heap.size 113 #[.slice none 0 0,.int .i64 0,.slice none 0 0,.int .u32 0,.int .u32 (kd:Nat)]:=by rw [hwf];exact Blk.new _ _ _
  rw [<-hwf];clear hwf;have hg4:g<w4.heap.size:=hK4.lt;have hb46:Below w0.heap.size w0 wf:=hb1.trans (((hb3.trans hb4).trans (hb6.mono (Nat.le_of_lt hg4))).mono (by rw [HG.out];exact nR _));have hkf:OwnB wf (w.heap.size+1) none 0 []:=OwnB.nil _ _ 0;have hbf:Below w.heap.size w wf:=hb0.trans (hb46.mono hb0.size);have RF:Blk wf w.heap.size 113 #[.slice none 0 0,.int .i64 0,.slice none 0 0,.int .u32 0,.int .u32 0]:=hZ0.below hb46 hZ0.lt;have hrf:=hr.below (hbf.mono hB);have hP:=PutC_any false ⟨none,0,none,0,⟨[],0,[],0,kd⟩⟩ wf (nR _) hkf.rd Reads.none_ ⟨Nat.zero_lt_succ _,hlt⟩;unfold CX.val cellV at hP;simp only [cputF,Bool.false_eq_true,if_false] at hP;have HIR:Hid (innerR b=⟨[],0,[],0,kd⟩):=lH (by unfold innerR;rw [hd,<-HP1.out.1,HKD.out])
  have hcoB:cOK false ⟨[],0,[],0,kd⟩=innerOK (innerR b):=by rw [HIR.out];rfl
  cases hok:cOK false ⟨[],0,[],0,kd⟩ with
  | false =>
   rw [hok] at hP;simp only [Bool.false_eq_true,if_false] at hP
   go_wp2_with (first
    | (go_at_call 172;refine hP.mono ?_;rintro e w9 ⟨A9,n9,c9,rfl,_,hb9⟩;have R9:=RF.below hb9 RF.lt)
    | (refine wpList_load_row rfl 113 (.tmp 7) rfl _ rfl _ _ _ _ ZF Tryz.underlying113 rfl (by kernel_rfl) ?_)
    | (refine wpList_store_row rfl 113 (.tmp 2) (.tmp 44) rfl w.heap.size _ rfl rfl 113 _ R9 (by kernel_rfl) rfl (by simp [Value.oneCell']) ?_))
   refine bodyPost_ret (rT rfl _ _ w.heap.size 113 _ (0,0) _ rfl (setRow_heap _ _ _ _ _ _ R9) Tryz.underlying113 rfl (by kernel_rfl)) rfl ?_
   have hg:innerG b=none:=by unfold innerG;rw [if_neg];rw [<-hcoB,hok];simp
   rw [hg];have hb10:=hbf.trans (hb9.mono hbf.size);exact ⟨rfl,hb10.trans ((fS _ w.heap.size _).below (B:=w.heap.size) hb10.size (fun k hk=>by omega))⟩
  | true =>
   rw [hok] at hP;simp only [if_true] at hP
   obtain ⟨xb,HXB⟩:∃ x,Hid (cB false ⟨[],0,[],0,kd⟩=x):=⟨_,lH rfl⟩
   rw [HXB.out] at hP;have hE:=fun (W:World) (A9:Option Addr) (c9:Nat) (h:Reads W W.heap.size 1 A9 xb.length (bl xb)) (hb:Below wf.heap.size wf W)=>Equal_any c9 c W h (hrf.below (hb.mono (nT hB hbf.size)))
   obtain ⟨q,HQ⟩:∃ q,Hid (decide (xb=b)=q):=⟨_,lH rfl⟩
   rw [HQ.out] at hE
   have hgI:innerG b=if q=true then some ⟨[],0,[],0,kd⟩ else none:=by
    unfold innerG;rw [<-hcoB,hok,HIR.out,<-HQ.out,show innerB ⟨[],0,[],0,kd⟩=xb from HXB.out];simp
   cases q with
   | false =>
    go_wp2_with (first
     | (go_at_call 172;refine hP.mono ?_;rintro e w9 ⟨A9,n9,c9,rfl,hn9,hb9⟩;obtain ⟨rfl,ho9⟩:=hn9 trivial;have R9:=RF.below hb9 RF.lt;have Z9:=ZF.below hb9 ZF.lt;have hE9:=hE w9 A9 c9 (Reads.of_own ho9) hb9)
     | (go_at_call 116;refine hE9.mono ?_;rintro e w10 ⟨rfl,h10⟩;have h10:=h10.symm;subst h10)
     | (refine wpList_load_row rfl 113 (.tmp 7) rfl _ rfl _ _ _ _ ZF Tryz.underlying113 rfl (by kernel_rfl) ?_)
     | (refine wpList_store_row rfl 113 (.tmp 2) (.tmp 44) rfl w.heap.size _ rfl rfl 113 _ R9 (by kernel_rfl) rfl (by simp [Value.oneCell']) ?_))
    refine bodyPost_ret (rT rfl _ _ w.heap.size 113 _ (0,0) _ rfl (setRow_heap _ _ _ _ _ _ R9) Tryz.underlying113 rfl (by kernel_rfl)) rfl ?_;rw [hgI];have hb10:=hbf.trans (hb9.mono hbf.size);exact ⟨rfl,hb10.trans ((fS _ w.heap.size _).below (B:=w.heap.size) hb10.size (fun k hk=>by omega))⟩
   | true =>
    go_wp2_with (first
     | (go_at_call 172;refine hP.mono ?_;rintro e w9 ⟨A9,n9,c9,rfl,hn9,hb9⟩;obtain ⟨rfl,ho9⟩:=hn9 trivial;have R9:=RF.below hb9 RF.lt;have Z9:=ZF.below hb9 ZF.lt;have hE9:=hE w9 A9 c9 (Reads.of_own ho9) hb9)
     | (go_at_call 116;refine hE9.mono ?_;rintro e w10 ⟨rfl,h10⟩;have h10:=h10.symm;subst h10)
     | (refine wpList_load_row rfl 113 (.tmp 7) rfl _ rfl _ _ _ _ Z9 Tryz.underlying113 rfl (by kernel_rfl) ?_)
     | (refine wpList_load_row rfl 113 (.tmp 7) rfl _ rfl _ _ _ _ ZF Tryz.underlying113 rfl (by kernel_rfl) ?_)
     | (refine wpList_store_row rfl 113 (.tmp 2) (.tmp 45) rfl w.heap.size _ rfl rfl 113 _ R9 (by kernel_rfl) rfl (by simp [Value.oneCell']) ?_))
    refine bodyPost_ret (rT rfl _ _ w.heap.size 113 _ (0,0) _ rfl (setRow_heap _ _ _ _ _ _ R9) Tryz.underlying113 rfl (by kernel_rfl)) rfl ?_;rw [hgI];have hb10:=hbf.trans (hb9.mono hbf.size);exact ⟨⟨⟨none,0,none,0,⟨[],0,[],0,kd⟩⟩,rfl,rfl,((hkf.below hb9).fr (fS _ w.heap.size _) (fun k hk=>by omega)).lo (Nat.le_succ _),OwnB.nil _ _ 0⟩,hb10.trans ((fS _ w.heap.size _).below (B:=w.heap.size) hb10.size (fun k hk=>by omega))⟩
 | cons n0 rest =>
  have cw8:IntKind.i64.wrap (n0.toNat:Int)=(n0.toNat:Int):=by rw [IntKind.wrap_i64];have:=n0.toNat_lt;omega
  go_enter Tryz.func173,Tryz.ntmps173
  go_wp2_with (first
   | (rw [<-HWF.out];refine wpList_load_row rfl 113 (.tmp 7) rfl _ rfl _ _ _ _ ZF Tryz.underlying113 rfl (by kernel_rfl) ?_)
   | (go_at_call 68;refine hCl.mono ?_;rintro e w8 ⟨A6,c6,rfl,ho8,hb8⟩;have Z8:=HZ7.out.below hb8 HZ7.out.lt;have k80:w8.cell? ⟨w4.heap.size,0,none⟩=some (.slice none 0 0):=Z8.cell 0;have f80:=Z8.frozen 0;obtain ⟨wf,hwf⟩:∃ wf,wf=w8.setCell ⟨w4.heap.size,0,none⟩ (.slice A6 kb2.length c6):=⟨_,rfl⟩;have ZF:Blk wf w4.heap.size 113 #[.slice A6 kb2.length c6,.int .i64 0,.slice none 0 0,.int .u32 0,.int .u32 (kd:Nat)]:=(by rw [hwf];exact Z8.set_ 0 _);have hg6:g<w6.heap.size:=(lT hg4 hb6.size);have hbg:Below g w1 wf:=(by rw [hwf];exact (((hb3.trans hb4).trans (hb6.mono (Nat.le_of_lt hg4))).trans (hb7.trans (hb8.mono (Nat.le_of_lt hK7.lt)))).setCell (p:=⟨w4.heap.size,0,none⟩) (Nat.le_of_lt hg4) _);have hkf:OwnB wf (w.heap.size+1) A6 c6 kb2:=(by have:=own_le (B':=w.heap.size+1) (own_setN ho8 (p:=⟨w4.heap.size,0,none⟩) (u:=.slice A6 kb2.length c6) (fun ad e=>by have:=own_ge ho8 ad e;have:=HZ7.out.lt;show ad.block≠w4.heap.size;omega)) (by have:=HZ7.out.lt;omega);rw [<-hwf] at this;exact this);have HWF:=lH hwf;have HZ8:=lH Z8;clear Z8 hwf)
   | (rw [<-HW6.out];go_at_call 218;refine hC3.mono ?_;rintro e w7 ⟨kb2,r2,A5,A7,c7,HP3,rfl,hk7,hc7,hr7,hK7,hb7,hf7⟩;have HZ7:=lH (HZ6.out.fr hf7 (show ¬ w4.heap.size=g by omega));have hCl:=BClone_any A5 kb2.length kb2 w7 hk7 (nT hBg (Nat.le_of_lt hK7.lt)) (by rw [HP3.out.1,lK,HP2.out.2,HP1.out.2,lD,lD];omega))
   | (go_at_call 113;refine (hN _ hkR).mono ?_;rintro e w5 ⟨rfl,h5⟩;subst h5)
   | (go_at_call 218;refine hC2.mono ?_;rintro e w4 ⟨nb,r1,A3,A4,c4,HP2,rfl,hnR,hc4,hrR,hK4,hb4,hf4⟩;have hkR:=hk3.below (hb4.mono hBg);have hk8:kb.length<=4:=(by rw [HP1.out.1,lK];omega);have hN:=fun W (hW:Reads W B 1 A1 kb.length (bl kb))=>Number_any A1 kb.length kb W hW (by omega);have hlt:numN kb<4294967296:=(lT (numN_lt kb) (nT (Nat.pow_le_pow_right (by decide) hk8) (by decide)));obtain ⟨kd,HKD⟩:∃ k,Hid (numN kb=k):=⟨_,lH rfl⟩;rw [HKD.out] at hN hlt;have cv:IntKind.u32.wrap (kd:Int)=(kd:Int):=(by rw [IntKind.wrap_u32];omega);clear hC2 hK3 hk3 hr2;have hnb:nb=[n0]:=(by have e:=HP2.out.1;rw [HP1.out.2,hd] at e;exact e);have HNB:=lH hnb;have hn4:((nb.length:Int)==1)=true:=(by rw [hnb];rfl);have i2:0<nb.length:=(by rw [hnb];exact Nat.zero_lt_one);have i1:(0:Int)<(nb.length:Int):=(by omega);obtain ⟨a3,rfl,ha3,hc3⟩:=hnR.2 i2;have c3:=hc3 0 (.int .u8 (n0.toNat:Nat)) (by rw [hnb];rfl);rw [show a3.add 0=a3 by unfold Addr.add;rw [if_pos rfl]] at c3;clear hc3 hnb;obtain ⟨w6,hw6⟩:∃ w6,w6=w4.alloc (.cells #[.slice none 0 0,.int .i64 0,.slice none 0 0,.int .u32 0,.int .u32 (kd:Nat)] 113):=⟨_,rfl⟩;have hb6:Below w4.heap.size w4 w6:=(by rw [hw6];exact (bR _ _).alloc (nR _) _);have Z6:Blk w6 w4.heap.size 113 #[.slice none 0 0,.int .i64 0,.slice none 0 0,.int .u32 0,.int .u32 (kd:Nat)]:=(by rw [hw6];exact Blk.new _ _ _);have hg4:g<w4.heap.size:=hK4.lt;have c36:(w4.alloc (.cells #[.slice none 0 0,.int .i64 0,.slice none 0 0,.int .u32 0,.int .u32 (kd:Nat)] 113)).cell? a3=some (.int .u8 (n0.toNat:Nat)):=(by rw [<-hw6];exact (hb6.cell (lT ha3 (nT hBg (Nat.le_of_lt hg4)))).trans c3);have hK6:=hK4.below hb6 hg4;have hr6:=hrR.below (hb6.mono (nT hBg (Nat.le_of_lt hg4)));have hC3:=cut_let hK6 hr6 hc4 (by rw [HP2.out.2,HP1.out.2,lD,lD];omega) n0.toNat (by have:=n0.toNat_lt;omega) hBg;have HW6:=lH hw6;have HZ6:=lH Z6;clear hw6 Z6 c3)
   | (go_at_call 218;refine hC1.mono ?_;rintro e w3 ⟨kb,r0,A1,A2,c2,HP1,rfl,hk3,hc2,hr2,hK3,hb3,hf3⟩;have hC2:=cut_let hK3 hr2 hc2 (by rw [HP1.out.2,lD];omega) 1 (by omega) hBg;clear hC1)
   | (rw [<-HW0.out];go_at_call 204;refine hCu.mono ?_;rintro e w2 ⟨rfl,h2⟩;have h2:=h2.symm;subst h2))
  have hb0g:Below w0.heap.size w0 wf:=hb1.trans (hbg.mono (by rw [HG.out];exact nR _));have hbf:Below w.heap.size w wf:=hb0.trans (hb0g.mono hb0.size);have RF:Blk wf w.heap.size 113 #[.slice none 0 0,.int .i64 0,.slice none 0 0,.int .u32 0,.int .u32 0]:=hZ0.below hb0g hZ0.lt;have hrf:=hr.below (hbf.mono hB);have hP:=PutC_any false ⟨A6,c6,none,0,⟨kb2,0,[],0,kd⟩⟩ wf (nR _) hkf.rd Reads.none_ ⟨Nat.zero_lt_succ _,hlt⟩;unfold CX.val cellV at hP;simp only [cputF,Bool.false_eq_true,if_false] at hP;have HIR:Hid (innerR b=⟨kb2,0,[],0,kd⟩):=lH (by unfold innerR;rw [hd,<-HP1.out.1,HKD.out];congr 1;rw [HP3.out.1,HP2.out.2,HP1.out.2,hd];rfl)
  have hcoB:cOK false ⟨kb2,0,[],0,kd⟩=innerOK (innerR b):=by rw [HIR.out];rfl
  cases hok:cOK false ⟨kb2,0,[],0,kd⟩ with
  | false =>
   rw [hok] at hP;simp only [Bool.false_eq_true,if_false] at hP
   go_wp2_with (first
    | (go_at_call 172;refine hP.mono ?_;rintro e w9 ⟨A9,n9,c9,rfl,_,hb9⟩;have R9:=RF.below hb9 RF.lt)
    | (refine wpList_load_row rfl 113 (.tmp 7) rfl _ rfl _ _ _ _ ZF Tryz.underlying113 rfl (by kernel_rfl) ?_)
    | (refine wpList_store_row rfl 113 (.tmp 2) (.tmp 44) rfl w.heap.size _ rfl rfl 113 _ R9 (by kernel_rfl) rfl (by simp [Value.oneCell']) ?_))
   refine bodyPost_ret (rT rfl _ _ w.heap.size 113 _ (0,0) _ rfl (setRow_heap _ _ _ _ _ _ R9) Tryz.underlying113 rfl (by kernel_rfl)) rfl ?_
   have hg:innerG b=none:=by unfold innerG;rw [if_neg];rw [<-hcoB,hok];simp
   rw [hg];have hb10:=hbf.trans (hb9.mono hbf.size);exact ⟨rfl,hb10.trans ((fS _ w.heap.size _).below (B:=w.heap.size) hb10.size (fun k hk=>by omega))⟩
  | true =>
   rw [hok] at hP;simp only [if_true] at hP
   obtain ⟨xb,HXB⟩:∃ x,Hid (cB false ⟨kb2,0,[],0,kd⟩=x):=⟨_,lH rfl⟩
   rw [HXB.out] at hP;have hE:=fun (W:World) (A9:Option Addr) (c9:Nat) (h:Reads W W.heap.size 1 A9 xb.length (bl xb)) (hb:Below wf.heap.size wf W)=>Equal_any c9 c W h (hrf.below (hb.mono (nT hB hbf.size)))
   obtain ⟨q,HQ⟩:∃ q,Hid (decide (xb=b)=q):=⟨_,lH rfl⟩
   rw [HQ.out] at hE
   have hgI:innerG b=if q=true then some ⟨kb2,0,[],0,kd⟩ else none:=by
    unfold innerG;rw [<-hcoB,hok,HIR.out,<-HQ.out,show innerB ⟨kb2,0,[],0,kd⟩=xb from HXB.out];simp
   cases q with
   | false =>
    go_wp2_with (first
     | (go_at_call 172;refine hP.mono ?_;rintro e w9 ⟨A9,n9,c9,rfl,hn9,hb9⟩;obtain ⟨rfl,ho9⟩:=hn9 trivial;have R9:=RF.below hb9 RF.lt;have Z9:=ZF.below hb9 ZF.lt;have hE9:=hE w9 A9 c9 (Reads.of_own ho9) hb9)
     | (go_at_call 116;refine hE9.mono ?_;rintro e w10 ⟨rfl,h10⟩;have h10:=h10.symm;subst h10)
     | (refine wpList_load_row rfl 113 (.tmp 7) rfl _ rfl _ _ _ _ ZF Tryz.underlying113 rfl (by kernel_rfl) ?_)
     | (refine wpList_store_row rfl 113 (.tmp 2) (.tmp 44) rfl w.heap.size _ rfl rfl 113 _ R9 (by kernel_rfl) rfl (by simp [Value.oneCell']) ?_))
    refine bodyPost_ret (rT rfl _ _ w.heap.size 113 _ (0,0) _ rfl (setRow_heap _ _ _ _ _ _ R9) Tryz.underlying113 rfl (by kernel_rfl)) rfl ?_;rw [hgI];have hb10:=hbf.trans (hb9.mono hbf.size);exact ⟨rfl,hb10.trans ((fS _ w.heap.size _).below (B:=w.heap.size) hb10.size (fun k hk=>by omega))⟩
   | true =>
    go_wp2_with (first
     | (go_at_call 172;refine hP.mono ?_;rintro e w9 ⟨A9,n9,c9,rfl,hn9,hb9⟩;obtain ⟨rfl,ho9⟩:=hn9 trivial;have R9:=RF.below hb9 RF.lt;have Z9:=ZF.below hb9 ZF.lt;have hE9:=hE w9 A9 c9 (Reads.of_own ho9) hb9)
     | (go_at_call 116;refine hE9.mono ?_;rintro e w10 ⟨rfl,h10⟩;have h10:=h10.symm;subst h10)
     | (refine wpList_load_row rfl 113 (.tmp 7) rfl _ rfl _ _ _ _ Z9 Tryz.underlying113 rfl (by kernel_rfl) ?_)
     | (refine wpList_load_row rfl 113 (.tmp 7) rfl _ rfl _ _ _ _ ZF Tryz.underlying113 rfl (by kernel_rfl) ?_)
     | (refine wpList_store_row rfl 113 (.tmp 2) (.tmp 45) rfl w.heap.size _ rfl rfl 113 _ R9 (by kernel_rfl) rfl (by simp [Value.oneCell']) ?_))
    refine bodyPost_ret (rT rfl _ _ w.heap.size 113 _ (0,0) _ rfl (setRow_heap _ _ _ _ _ _ R9) Tryz.underlying113 rfl (by kernel_rfl)) rfl ?_;rw [hgI];have hb10:=hbf.trans (hb9.mono hbf.size);exact ⟨⟨⟨A6,c6,none,0,⟨kb2,0,[],0,kd⟩⟩,rfl,rfl,((hkf.below hb9).fr (fS _ w.heap.size _) (fun k hk=>by omega)).lo (Nat.le_succ _),OwnB.nil _ _ 0⟩,hb10.trans ((fS _ w.heap.size _).below (B:=w.heap.size) hb10.size (fun k hk=>by omega))⟩
def low:List UInt8->Nat->Option Nat
 | [],_=>none
 | c::l,i=>if c.toNat<128 then some i else low l (i+1)
def lowI (l:List UInt8):Int:=match low l 0 with
 | some i=>i
 | none=>-1
theorem low_step:∀ {l:List UInt8} {i k:Nat},(∀ j y,j<k->l[j]?=some y->¬ y.toNat<128)->k<=l.length->low l i=low (l.drop k) (i+k)
 | l,i,0,_,_=>by simp
 | [],i,k+1,_,hk=>by simp at hk
 | x::l,i,k+1,h,hk=>by
  have h0:low (x::l) i=low l (i+1):=if_neg (h 0 x (by omega) rfl);rw [h0,List.drop_succ_cons,low_step (i:=i+1) (k:=k) (fun j y hj hy=>h (j+1) y (by omega) (by simpa using hy)) (by simpa using hk),show i+1+k=i+(k+1) by omega]
theorem low_hit {k:Nat} {l:List UInt8} {y:UInt8} (h:∀ j y,j<k->l[j]?=some y->¬ y.toNat<128) (hy:l[k]?=some y) (hq:y.toNat<128):lowI l=k:=by
 have hk:=(lS.1 hy).1
 have e:l.drop k=y::l.drop (k+1):=by
  rw [<-(lS.1 hy).2,List.getElem_cons_drop]
 unfold lowI;rw [low_step (i:=0) h (Nat.le_of_lt hk),e];unfold low;rw [if_pos hq];simp
theorem low_none {l:List UInt8} (h:∀ j y,j<l.length->l[j]?=some y->¬ y.toNat<128):lowI l=-1:=by
 unfold lowI;rw [low_step (i:=0) h (nR _),List.drop_length];rfl
theorem low_call (c:UInt8) (w:World):Calls Tryz.prog 220 #[.int .u8 c.toNat] w fun e w'=>e=.returned (.bool (decide (c.toNat<128)))/\w=w':=by
 have e:decide ((c.toNat:Int)<128)=decide (c.toNat<128):=by
  by_cases h:c.toNat<128
  ·rw [dT h,dT (by omega)]
  ·rw [dF h,dF (by omega)]
 go_enter Tryz.func220,Tryz.ntmps220;go_wp2;go_ret
 first
  | exact ⟨rfl,rfl⟩
  | exact ⟨by rw [<-e],rfl⟩
theorem LowIndex_any {B:Nat} {w:World} (A:Option Addr) (c:Nat) (l:List UInt8) (hr:Reads w B 1 A l.length (bl l)) (hB:B<=w.heap.size) (hl:l.length<=1000) :
 Calls Tryz.prog 219 #[.slice A l.length c,.func (.func 220) #[] #[]] w fun e w'=>e=.returned (.int .i64 (lowI l))/\Below w.heap.size w w':=by
 go_enter Tryz.func219,Tryz.ntmps219;go_wp2
 go_loopw [8] (fun i wr=>(∃ k,k<=l.length/\i=.int .i64 k/\(∀ j y,j<k->l[j]?=some y->¬ y.toNat<128))/\Below w.heap.size w wr) (fun i _=>l.length-(intOf i).toNat)
 case atStart=>exact ⟨⟨0,zL _,rfl,fun j y hj=>by omega⟩,bR _ _⟩
 case round =>
  obtain ⟨⟨k,hk,rfl,hno⟩,hB1⟩:=hrel;have HNO:=lH hno;clear hno
  obtain ⟨wo,rfl⟩:∃ wo,wo=wr:=⟨wr,rfl⟩
  by_cases hlt:k<l.length
  ·have d1:decide (k<l.length)=true:=by simpa using hlt
   obtain ⟨y,hy⟩:∃ y,l[k]?=some y:=⟨_,gE hlt⟩
   obtain ⟨ad,u,rfl,_,hu,hcs⟩:=(hr.below (hB1.mono hB)).at_ hlt;unfold bl at hu;rw [List.getElem?_map,hy] at hu
   cases hu
   have i0:(0:Int)<=(k:Int):=by omega
   have i1:(k:Int)<(l.length:Int):=by omega
   have hI:=low_call y;by_cases hq:y.toNat<128
   ·rw [dT hq] at hI;have HQ:=lH (aI hq hy);clear hq hy
    go_wp2_with (go_at_call 220;refine (hI _).mono ?_;rintro e w9 ⟨rfl,rfl⟩)
    go_ret;exact ⟨by rw [low_hit HNO.out HQ.out.2 HQ.out.1];rfl,by first | exact hB1.drew | exact hB1⟩
   ·rw [dF hq] at hI;have HQ:=lH (aI hq hy);clear hq hy
    go_wp2_with (go_at_call 220;refine (hI _).mono ?_;rintro e w9 ⟨rfl,rfl⟩)
    go_roundw
    case rel=>exact ⟨⟨k+1,by omega,by go_num,fun j z hj hz=>by
     by_cases e:j=k
     ·subst e;rw [HQ.out.2] at hz;cases hz;exact HQ.out.1
     ·exact HNO.out j z (by omega) hz⟩,by first | exact hB1.drew | exact hB1⟩
    case measure=>simp [intOf];omega
  ·have d1:decide (k<l.length)=false:=by simpa using hlt
   have hk':k=l.length:=by omega
   have HK:=lH hk';clear hk';go_wp2;go_ret;exact ⟨by rw [low_none (fun j y hj hy=>HNO.out j y (by rw [HK.out];exact hj) hy)];rfl,hB1⟩
def VGetOK:Prop:=∀ {B:Nat} (A:Option Addr) (cc:Nat) (b:List UInt8) (w:World),B<=w.heap.size->Reads w B 1 A b.length (bl b)->b.length<=3000000->b.length<=cc ->
 Calls Tryz.prog 205 #[.slice A b.length cc] w fun e w'=>e=.returned (.tuple #[.int .u64 (getN b).1,.int .i64 (getN b).2.1,.int .i64 (getN b).2.2])/\Below w.heap.size w w'
def backN:List UInt8->Nat
 | []=>0
 | c::r=>backN r*128+c.toNat % 128
theorem low_ge:∀ (l:List UInt8) (i j:Nat),low l i=some j->i<=j/\j<i+l.length
 | [],i,j,h=>by simp [low] at h
 | c::l,i,j,h=>by
  unfold low at h
  split at h
  ·cases h;simp
  ·have:=low_ge l (i+1) j h;simp only [List.length_cons];omega
def getV (i f:Nat) (b:List UInt8):Nat × Nat × Int:=match low (b.take f) i with
 | none=>if b.length<f then (0,0,10) else (0,0,11)
 | some j=>if j=9/\1<(b.getD (j-i) 0).toNat then (0,0,11) else if 0<j/\(b.getD (j-i) 0).toNat=0 then (0,0,12) else (backN (b.take (j-i+1)),j-i+1,0)
theorem getF_getV:∀ (f i:Nat) (b:List UInt8),f+i=10->0<f->getF f i b=getV i f b
 | 0,_,_,_,h=>absurd h (by omega)
 | f+1,i,[],_,_=>by simp [getF,getV,low]
 | f+1,i,c::r,hf,_=>by
  have hc:c.toNat<256:=c.toNat_lt;by_cases h:c.toNat<128
  ·have e:low ((c::r).take (f+1)) i=some i:=by rw [List.take_succ_cons,low,if_pos h]
   unfold getV;rw [e,getF];simp only [Nat.sub_self,List.getD_cons_zero,if_pos h];by_cases h9:i=9/\1<c.toNat
   ·rw [if_pos h9,if_pos h9]
   ·rw [if_neg h9,if_neg h9];by_cases h0:0<i/\c.toNat=0
    ·rw [if_pos h0,if_pos h0]
    ·rw [if_neg h0,if_neg h0];simp only [Nat.zero_add,List.take_succ_cons,List.take_zero,backN];rw [Nat.mod_eq_of_lt h];simp
  ·have e:low ((c::r).take (f+1)) i=low (r.take f) (i+1):=by rw [List.take_succ_cons,low,if_neg h]
   by_cases h9:i=9
   ·have hf0:f=0:=by omega
    subst hf0;unfold getV;rw [e,getF,if_pos ⟨h9,by omega⟩];simp [low]
   ·have ih:=getF_getV f (i+1) r (by omega) (by omega);unfold getV at ih ⊢;rw [e,getF,if_neg (fun hh=>h9 hh.1),if_neg h,ih]
    cases hl:low (r.take f) (i+1) with
    | none =>
     by_cases hr:r.length<f
     ·have hr':(c::r).length<f+1:=by simp only [List.length_cons];omega
      simp only [if_pos hr,if_pos hr'];simp
     ·have hr':¬ (c::r).length<f+1:=by simp only [List.length_cons];omega
      simp only [if_neg hr,if_neg hr'];simp
    | some j =>
     have hj:=low_ge _ _ _ hl
     have ej:j-i=(j-(i+1))+1:=by omega
     simp only;rw [ej,List.getD_cons_succ];by_cases a1:j=9/\1<(r.getD (j-(i+1)) 0).toNat
     ·simp only [if_pos a1];simp
     ·by_cases a2:0<j/\(r.getD (j-(i+1)) 0).toNat=0
      ·simp only [if_neg a1,if_pos a2];simp
      ·simp only [if_neg a1,if_neg a2,if_true,List.take_succ_cons,backN];refine Prod.ext ?_ rfl;show c.toNat-128+128*_=_*128+c.toNat % 128;omega
theorem getN_getV (b:List UInt8):getN b=getV 0 10 b:=getF_getV 10 0 b rfl (by omega)
attribute [local go_sem] Oper.semAt_some
def back (b:List UInt8) (k:Nat):List (Nat × UInt8):=(List.range k).map fun j=>(b.length-1-j,b.getD (b.length-1-j) 0)
theorem back_succ (b:List UInt8) (k:Nat):back b (k+1)=back b k++[(b.length-1-k,b.getD (b.length-1-k) 0)]:=by simp [back,List.range_succ]
theorem back_length (b:List UInt8) (k:Nat):(back b k).length=k:=by simp [back]
def KeepB (n₀ Bs:Nat) (A B:World):Prop:=Below n₀ A B/\B.cell? ⟨Bs,0,none⟩=A.cell? ⟨Bs,0,none⟩
theorem back1_in (F:Fence) (n:Nat) (hF:F.fn 225) (hro:F.round=none) (hn:1<=n) (l Bs n₀ cap:Nat) (a:Addr) (b:List UInt8) (hreach:b.length<=1000) (hb:a.block<n₀) (J Jx:List (Nat × UInt8)->World->Prop)
 (hY:∀ pre x W,J pre W->pre.length<b.length->YieldAt F (n-1) Tryz.prog l #[.int .i64 (x.1:Int),.int .u8 (x.2.toNat:Int)] W fun e W' =>
  (e=.returned (.bool true)/\J (pre++[x]) W'/\KeepB n₀ Bs W W')\/(e=.returned (.bool false)/\Jx (pre++[x]) W'))
 (W:World) (hBs:W.cell? ⟨Bs,0,none⟩=some (.slice (some a) b.length cap)) (hc:∀ j,j<b.length->W.cell? (a.add j)=some (.int .u8 ((b.getD j 0).toNat:Int))) (h0:J [] W) :
 CallsIn F n Tryz.prog 225 #[.func (.yield l) #[] #[],.pointer (some ⟨Bs,0,none⟩)] W fun e W'=>(∃ v,e=.returned v) /\
  ((∃ ys,ys=back b b.length/\J ys W')\/(∃ pre,(∃ k,k<=b.length/\pre=back b k)/\Jx pre W')):=by
 refine callsIn_of_wp Tryz.func225 rfl hF ?_ hro;simp only [Tryz.ntmps225,List.size_toArray,List.length_cons,List.length_nil,Nat.reduceAdd,Nat.reduceSub,Array.replicate_succ,Array.replicate_zero,List.push_toArray,List.append_toArray,List.nil_append,List.cons_append]
 gi_wp2
 gi_loopw [3] (fun i wr=>∃ k:Nat,k<=b.length/\i=.int .i64 ((b.length:Int)-1-(k:Int))/\J (back b k) wr/\KeepB n₀ Bs W wr)
  (fun i _=>(intOf i+1).toNat)
 case atStart=>exact ⟨0,zL _,by simp,h0,bR _ _,rfl⟩
 case round =>
  obtain ⟨k,hk,rfl,hJs,hnx,hbx⟩:=hrel;have hbs:=hbx.trans hBs;by_cases hlt:k<b.length
  ·obtain ⟨m,hm⟩:∃ m,b.length-1-k=m:=⟨_,rfl⟩
   have e:(b.length:Int)-1-(k:Int)=(m:Nat):=by omega
   have hml:m<b.length:=by omega
   obtain ⟨y,hyv⟩:∃ y,b.getD m 0=y:=⟨_,rfl⟩
   obtain ⟨fn,tmps,assign,body,hy,hR⟩:=hY _ (m,y) wr hJs (by rw [back_length];exact hlt);dsimp only at hy;have hcx:wr.cell? (a.add m)=some (.int .u8 ((b.getD m 0).toNat:Int)):=(hnx.cell (p:=a.add m) (by unfold Addr.add;split <;> exact hb)).trans (hc m hml);rw [hyv] at hcx
   have m0:(0:Int)<=(m:Int):=by omega
   have m1:(m:Int)<(b.length:Int):=by omega
   have HB:=lH hbx;clear hbx;have HM:=lH (aI hm (aI e hyv));rw [e];clear hm e hml hyv
   gi_wp2
   refine hR.mono ?_;rintro e W3 (⟨rfl,hJ3,hk3⟩ | ⟨rfl,hJx3⟩)
   ·gi_wp2
    go_roundw
    case rel=>exact ⟨k+1,by omega,by have:=HM.out.2.1;first | (congr 1;omega) | go_num,by rw [back_succ,HM.out.1,HM.out.2.2];exact hJ3,hnx.trans hk3.1,hk3.2.trans HB.out⟩
    case measure=>have:=HM.out.2.1;first | (simp [intOf];done) | (simp [intOf];omega)
   ·gi_wp2
    refine bodyPost_ret (results_none rfl _ _ _) rfl ?_;exact ⟨⟨_,rfl⟩,.inr ⟨_,⟨k+1,by omega,by rw [back_succ,HM.out.1,HM.out.2.2]⟩,hJx3⟩⟩
  ·obtain rfl:k=b.length:=by omega
   have e:(b.length:Int)-1-(b.length:Int)=-1:=by omega
   rw [e];clear e
   gi_wp2
   go_end0
   exact ⟨⟨_,rfl⟩,.inl ⟨_,rfl,hJs⟩⟩
attribute [local go_sem] Oper.semAt_some
theorem back_stops (F:Fence) (n:Nat) (hF:F.fn 225) (hro:F.round=none) (hn:1<=n) (Bs n₀ cap:Nat) (a:Addr) (b:List UInt8) (hreach:b.length<=1000) (w:World) (hBl:Bs<w.heap.size) (hn₀:n₀<=w.heap.size) (hb:a.block<n₀)
 (hBs:w.cell? ⟨Bs,0,none⟩=some (.slice (some a) b.length cap)) (hc:∀ j,j<b.length->w.cell? (a.add j)=some (.int .u8 ((b.getD j 0).toNat:Int))) :
 SeqStopsK F n Tryz.prog 225 #[.pointer (some ⟨Bs,0,none⟩)] (fun x:Nat × UInt8=>#[Value.int .i64 (x.1:Int),Value.int .u8 (x.2.toNat:Int)]) (KeepB n₀ Bs) (fun ys=>ys=back b b.length)
  (fun pre=>∃ k,k<=b.length/\pre=back b k) b.length w:=fun l J Jx W hW _ _ hY h0=>by
 have hBs':=(hW.cell (p:=⟨Bs,0,none⟩) hBl).trans hBs;have hc':∀ j,j<b.length->W.cell? (a.add j)=some (.int .u8 ((b.getD j 0).toNat:Int)):=fun j hj=>(hW.cell (p:=a.add j) (by unfold Addr.add;split <;> exact lT hb hn₀)).trans (hc j hj);exact back1_in F n hF hro hn l Bs n₀ cap a b hreach hb J Jx hY W hBs' hc' h0
theorem back_go (A:Option Addr) (n c:Nat) (w:World):Calls Tryz.prog 221 #[.slice A n c] w fun e w'=>e=.returned (.func (.func 225) #[] #[.pointer (some ⟨w.heap.size,0,none⟩)])/\w'=w.alloc (.cells #[.slice A n c] 23):=by
 go_enter Tryz.func221,Tryz.ntmps221;go_wp2;go_ret;exact ⟨rfl,rfl⟩
def accN (pre:List (Nat × UInt8)):Nat:=pre.foldl (fun n x=>n*128+x.2.toNat % 128) 0
theorem accN_snoc (pre:List (Nat × UInt8)) (x:Nat × UInt8):accN (pre++[x])=accN pre*128+x.2.toNat % 128:=by simp [accN]
theorem backN_acc (b:List UInt8):∀ k,k<=b.length->accN (back b k)=backN (b.drop (b.length-k))
 | 0,_=>by simp [back,accN,backN]
 | k+1,h=>by
  rw [back_succ,accN_snoc,backN_acc b k (by omega)]
  have hlt:b.length-1-k<b.length:=by omega
  have e:b.drop (b.length-(k+1))=b[b.length-1-k]::b.drop (b.length-k):=by
   rw [show b.length-(k+1)=b.length-1-k by omega,show b.length-k=b.length-1-k+1 by omega,List.getElem_cons_drop]
  rw [e,backN]
  have e2:b.getD (b.length-1-k) 0=b[b.length-1-k]:=by rw [List.getD_eq_getElem?_getD,gE hlt];rfl
  rw [e2]
theorem backN_all (b:List UInt8):accN (back b b.length)=backN b:=by
 rw [backN_acc b b.length (nR _),Nat.sub_self,List.drop_zero]
theorem backN_lt:∀ (b:List UInt8),backN b<128 ^ b.length
 | []=>by simp [backN]
 | c::r=>by
  have:=backN_lt r;rw [backN,List.length_cons,Nat.pow_succ];omega
theorem keepB_t {n₀ Bs:Nat} {A B C:World} (h:KeepB n₀ Bs A B) (h2:KeepB n₀ Bs B C):KeepB n₀ Bs A C:=⟨h.1.trans h2.1,h2.2.trans h.2⟩
attribute [local go_sem] Oper.semAt_some
theorem VGet_short {B:Nat} (A:Option Addr) (cc:Nat) (b:List UInt8) (w:World) (hB:B<=w.heap.size) (hr:Reads w B 1 A b.length (bl b)) (hcap:b.length<=cc) (hl:b.length<10) (hi:low b 0=none) :
 Calls Tryz.prog 205 #[.slice A b.length cc] w fun e w'=>e=.returned (.tuple #[.int .u64 0,.int .i64 0,.int .i64 10])/\Below w.heap.size w w':=by
 have hI:=LowIndex_any A cc b hr hB (by omega)
 have e:lowI b=-1:=by unfold lowI;rw [hi]
 rw [e] at hI
 have hmin:min (b.length:Int) 10=(b.length:Int):=by omega
 have hmif:(if (10:Int)<(b.length:Int) then (10:Int) else (b.length:Int))=(b.length:Int):=by split <;> omega
 have b1:(b.length:Int)<10:=by omega
 refine (callsIn_wide (n:=3)).1 ?_;refine callsIn_of_wp_marks Tryz.func205 rfl trivial ?_ rfl;simp only [Tryz.ntmps205,List.size_toArray,List.length_cons,List.length_nil,Nat.reduceAdd,Nat.reduceSub,Array.replicate_succ,Array.replicate_zero,List.push_toArray,List.append_toArray,List.nil_append,List.cons_append]
 gi_wp2_with (refine ⟨trivial,?_⟩;gi_at_call 219;refine (callsIn_wide.2 hI).mono ?_;rintro e w1 ⟨rfl,hb⟩)
 refine ⟨_,results_tmp3 rfl _ _ _,?_⟩;exact ⟨rfl,hb⟩
theorem VGet_wide {B:Nat} (A:Option Addr) (cc:Nat) (b:List UInt8) (w:World) (hB:B<=w.heap.size) (hr:Reads w B 1 A b.length (bl b)) (hcap:b.length<=cc) (hl:10<=b.length) (hi:low (b.take 10) 0=none) :
 Calls Tryz.prog 205 #[.slice A b.length cc] w fun e w'=>e=.returned (.tuple #[.int .u64 0,.int .i64 0,.int .i64 11])/\Below w.heap.size w w':=by
 have hl10:(b.take 10).length=10:=by rw [lK];omega
 have hI:=LowIndex_any A cc (b.take 10) (by rw [hl10];exact reads_take hr hl) hB (by omega)
 have e:lowI (b.take 10)=-1:=by unfold lowI;rw [hi]
 rw [e,hl10] at hI
 have hmin:min (b.length:Int) 10=10:=by omega
 have hmif:(if (10:Int)<(b.length:Int) then (10:Int) else (b.length:Int))=10:=by split <;> omega
 have b0:10<=cc:=by omega
 clear hi e hl10;refine (callsIn_wide (n:=3)).1 ?_;refine callsIn_of_wp_marks Tryz.func205 rfl trivial ?_ rfl;simp only [Tryz.ntmps205,List.size_toArray,List.length_cons,List.length_nil,Nat.reduceAdd,Nat.reduceSub,Array.replicate_succ,Array.replicate_zero,List.push_toArray,List.append_toArray,List.nil_append,List.cons_append]
 gi_wp2_with (refine ⟨trivial,?_⟩;gi_at_call 219;refine (callsIn_wide.2 hI).mono ?_;rintro e w1 ⟨rfl,hb⟩)
 refine ⟨_,results_tmp3 rfl _ _ _,?_⟩;exact ⟨rfl,hb⟩
theorem VGet_form {B:Nat} (a:Addr) (cc L j:Nat) (b:List UInt8) (w:World) (hB:B<=w.heap.size) (hr:Reads w B 1 (some a) b.length (bl b)) (hcap:b.length<=cc) (hL:L=min b.length 10) (hi:low (b.take 10) 0=some j) (hj:0<j) (h0:(b.getD j 0).toNat=0) :
 Calls Tryz.prog 205 #[.slice (some a) b.length cc] w fun e w'=>e=.returned (.tuple #[.int .u64 0,.int .i64 0,.int .i64 12])/\Below w.heap.size w w':=by
 have hl10:(b.take 10).length=L:=by rw [lK];omega
 have hI:=LowIndex_any (some a) cc (b.take 10) (by rw [hl10];have:=reads_take (n:=L) hr (by omega);rwa [show b.take L=b.take 10 by rw [hL,Nat.min_comm,<-List.take_take,List.take_length]] at this) hB (by omega)
 have e:lowI (b.take 10)=j:=by unfold lowI;rw [hi]
 rw [e,hl10] at hI;have hjl:=(low_ge _ _ _ hi).2;rw [hl10] at hjl
 have hmin:min (b.length:Int) 10=(L:Int):=by omega
 have hmif:(if (10:Int)<(b.length:Int) then (10:Int) else (b.length:Int))=(L:Int):=by split <;> omega
 have hjb:j<b.length:=by omega
 have hc:w.cell? (a.add j)=some (.int .u8 0):=by
  obtain ⟨a',e',_,h2⟩:=hr.2 (by omega)
  cases e'
  rw [h2 j (.int .u8 ((b.getD j 0).toNat:Int)) (by unfold bl;rw [List.getElem?_map,gE hjb,List.getD_eq_getElem?_getD,gE hjb];rfl),h0];rfl
 have b0:L<=cc:=by omega
 have b1:L<=b.length:=by omega
 have j0:(0:Int)<=(j:Int):=by omega
 have j1:(j:Int)<(L:Int):=by omega
 have j2:¬ (j:Int)<0:=by omega
 have j3:(0:Int)<(j:Int):=by omega
 have hcw:∀ W,Below w.heap.size w W->W.cell? (a.add j)=some (.int .u8 0):=fun W hW=>(hW.cell (World.block_lt_of_cell? w _ hc)).trans hc;clear hi e hl10 hL hjb h0;refine (callsIn_wide (n:=3)).1 ?_;refine callsIn_of_wp_marks Tryz.func205 rfl trivial ?_ rfl;simp only [Tryz.ntmps205,List.size_toArray,List.length_cons,List.length_nil,Nat.reduceAdd,Nat.reduceSub,Array.replicate_succ,Array.replicate_zero,List.push_toArray,List.append_toArray,List.nil_append,List.cons_append];by_cases h9:j=9
 ·subst h9
  gi_wp2_with (refine ⟨trivial,?_⟩;gi_at_call 219;refine (callsIn_wide.2 hI).mono ?_;rintro e w1 ⟨rfl,hb⟩;have hcx:=hcw w1 hb;have hcz:w1.cell? ⟨a.block,a.off+9,none⟩=some (.int .u8 0):=(by simpa [Addr.add] using hcx))
  refine ⟨_,results_tmp3 rfl _ _ _,?_⟩;exact ⟨rfl,hb⟩
 ·have d9:¬ (j:Int)=9:=by omega
  gi_wp2_with (refine ⟨trivial,?_⟩;gi_at_call 219;refine (callsIn_wide.2 hI).mono ?_;rintro e w1 ⟨rfl,hb⟩;have hcx:=hcw w1 hb)
  refine ⟨_,results_tmp3 rfl _ _ _,?_⟩;exact ⟨rfl,hb⟩
theorem VGet_nine {B:Nat} (a:Addr) (cc:Nat) (b:List UInt8) (w:World) (hB:B<=w.heap.size) (hr:Reads w B 1 (some a) b.length (bl b)) (hcap:b.length<=cc) (hl:10<=b.length) (hi:low (b.take 10) 0=some 9) {y:Nat} (hy:(b.getD 9 0).toNat=y) (h1:1<y) :
 Calls Tryz.prog 205 #[.slice (some a) b.length cc] w fun e w'=>e=.returned (.tuple #[.int .u64 0,.int .i64 0,.int .i64 11])/\Below w.heap.size w w':=by
 have hl10:(b.take 10).length=10:=by rw [lK];omega
 have hI:=LowIndex_any (some a) cc (b.take 10) (by rw [hl10];exact reads_take hr hl) hB (by omega)
 have e:lowI (b.take 10)=9:=by unfold lowI;rw [hi];rfl
 rw [e,hl10] at hI
 have hmin:min (b.length:Int) 10=10:=by omega
 have hmif:(if (10:Int)<(b.length:Int) then (10:Int) else (b.length:Int))=10:=by split <;> omega
 have hc:w.cell? (a.add 9)=some (.int .u8 (y:Nat)):=by
  obtain ⟨a',e',_,h2⟩:=hr.2 (by omega)
  cases e'
  rw [h2 9 (.int .u8 ((b.getD 9 0).toNat:Int)) (by unfold bl;rw [List.getElem?_map,gE (by omega),List.getD_eq_getElem?_getD,gE (by omega)];rfl),hy]
 have b0:10<=cc:=by omega
 have y1:(1:Int)<(y:Int):=by omega
 have hcw:∀ W,Below w.heap.size w W->W.cell? (a.add 9)=some (.int .u8 (y:Nat)):=fun W hW=>(hW.cell (World.block_lt_of_cell? w _ hc)).trans hc;clear hi e hl10 hy;refine (callsIn_wide (n:=3)).1 ?_;refine callsIn_of_wp_marks Tryz.func205 rfl trivial ?_ rfl;simp only [Tryz.ntmps205,List.size_toArray,List.length_cons,List.length_nil,Nat.reduceAdd,Nat.reduceSub,Array.replicate_succ,Array.replicate_zero,List.push_toArray,List.append_toArray,List.nil_append,List.cons_append]
 gi_wp2_with (refine ⟨trivial,?_⟩;gi_at_call 219;refine (callsIn_wide.2 hI).mono ?_;rintro e w1 ⟨rfl,hb⟩;have hcx:=hcw w1 hb;have hcz:w1.cell? ⟨a.block,a.off+9,none⟩=some (.int .u8 (y:Nat)):=(by simpa [Addr.add] using hcx))
 refine ⟨_,results_tmp3 rfl _ _ _,?_⟩;exact ⟨rfl,hb⟩
attribute [local go_sem] Oper.semAt_some
theorem step_bits (n c:Nat) (hn:n<144115188075855872) (hc:c<256):bits .or .u64 (IntKind.u64.wrap ((n:Int)*128)) (IntKind.u64.wrap (bits .and .u8 (c:Int) 127))=((n*128+c % 128:Nat):Int):=by
 have e1:bits .and .u8 (c:Int) 127=((c % 128:Nat):Int):=by
  have h:=(bits_nat .u8 8 (by decide) (fun n h0 h1=>by rw [IntKind.wrap_u8];omega) c 127 hc (by decide)).1;have h2:=Nat.and_two_pow_sub_one_eq_mod c 7;rw [show (2:Nat) ^ 7-1=127 from rfl,show (2:Nat) ^ 7=128 from rfl] at h2;rw [h2] at h;exact h
 have e2:IntKind.u64.wrap ((n:Int)*128)=((n*128:Nat):Int):=by rw [IntKind.wrap_u64];omega
 have e3:IntKind.u64.wrap ((c % 128:Nat):Int)=((c % 128:Nat):Int):=by rw [IntKind.wrap_u64];omega
 rw [e1,e3,e2];have h:=bits_or_u64_nat (n*128) (c % 128) (by omega) (by omega);have h2:=Nat.two_pow_add_eq_or_of_lt (i:=7) (b:=c % 128) (by omega) n;rw [h,show n*128=2 ^ 7*n by omega,<-h2]
theorem step_mod (n c m:Nat) (hm:m=n % 18446744073709551616) (hc:c<256):bits .or .u64 (IntKind.u64.wrap ((m:Int)*128)) (IntKind.u64.wrap (bits .and .u8 (c:Int) 127))=(((n*128+c % 128) % 18446744073709551616:Nat):Int):=by
 have h:=step_bits (m % 144115188075855872) c (by omega) hc
 have e:IntKind.u64.wrap ((m:Int)*128)=IntKind.u64.wrap (((m % 144115188075855872:Nat):Int)*128):=by rw [IntKind.wrap_u64,IntKind.wrap_u64];omega
 rw [e,h];congr 1;omega
def accM (pre:List (Nat × UInt8)):Nat:=accN pre % 18446744073709551616
theorem accM_step (pre:List (Nat × UInt8)) (x:Nat × UInt8):bits .or .u64 (IntKind.u64.wrap ((accM pre:Int)*128)) (IntKind.u64.wrap (bits .and .u8 (x.2.toNat:Int) 127))=((accM (pre++[x]):Nat):Int):=by
 unfold accM;rw [accN_snoc];exact step_mod (accN pre) x.2.toNat _ rfl x.2.toNat_lt
theorem backN_snoc (c:UInt8):∀ (l:List UInt8),backN (l++[c])=backN l+128 ^ l.length*(c.toNat % 128)
 | []=>by simp [backN]
 | d::l=>by
  have h:=backN_snoc c l;rw [List.cons_append,backN,h,backN,List.length_cons,Nat.pow_succ];generalize 128 ^ l.length=p;rw [Nat.add_mul,Nat.mul_right_comm,Nat.mul_comm p 128,Nat.mul_assoc 128,Nat.mul_comm 128 (p*_)];omega
theorem backN_fit (b:List UInt8) (h:b.length<=9):backN b<18446744073709551616:=by
 have h1:=backN_lt b;have h2:128 ^ b.length<=128 ^ 9:=Nat.pow_le_pow_right (by decide) h
 have:(128:Nat) ^ 9=9223372036854775808:=by decide
 omega
theorem backN_fit10 (b:List UInt8) (h:9<b.length) (h1:(b.getD 9 0).toNat<=1):backN (b.take 10)<18446744073709551616:=by
 have e:b.take 10=b.take 9++[b.getD 9 0]:=by
  rw [List.take_add_one (i:=9),List.getD_eq_getElem?_getD,gE h];rfl
 have l9:(b.take 9).length=9:=by rw [lK];omega
 rw [e,backN_snoc,l9];have h3:=backN_lt (b.take 9);rw [l9] at h3
 have:(128:Nat) ^ 9=9223372036854775808:=by decide
 rw [this] at h3 ⊢;omega
theorem VGet_go {B:Nat} (a:Addr) (cc L j y:Nat) (b:List UInt8) (w:World) (hB:B<=w.heap.size) (hr:Reads w B 1 (some a) b.length (bl b)) (hcap:b.length<=cc) (hL:L=min b.length 10) (hi:low (b.take 10) 0=some j) (hj:0<j) (hj9:j≠9) (hy:(b.getD j 0).toNat=y) (h0:y≠0) :
 Calls Tryz.prog 205 #[.slice (some a) b.length cc] w fun e w'=>e=.returned (.tuple #[.int .u64 (backN (b.take (j+1)):Nat),.int .i64 ((j:Int)+1),.int .i64 0])/\Below w.heap.size w w':=by
 have hl10:(b.take 10).length=L:=by rw [lK];omega
 have hI:=LowIndex_any (some a) cc (b.take 10) (by rw [hl10];have:=reads_take (n:=L) hr (by omega);rwa [show b.take L=b.take 10 by rw [hL,Nat.min_comm,<-List.take_take,List.take_length]] at this) hB (by omega)
 have e:lowI (b.take 10)=j:=by unfold lowI;rw [hi]
 rw [e,hl10] at hI;have hjl:=(low_ge _ _ _ hi).2;rw [hl10] at hjl
 have hmin:min (b.length:Int) 10=(L:Int):=by omega
 have hmif:(if (10:Int)<(b.length:Int) then (10:Int) else (b.length:Int))=(L:Int):=by split <;> omega
 have hjb:j<b.length:=by omega
 have hc:w.cell? (a.add j)=some (.int .u8 (y:Nat)):=by rw [<-hy];exact reads_cell hr j hjb
 have haw:=reads_low hr (by omega);have hbn:=backN_fit (b.take (j+1)) (by rw [lK];omega)
 have b0:L<=cc:=by omega
 have b1:L<=b.length:=by omega
 have j0:(0:Int)<=(j:Int):=by omega
 have j1:(j:Int)<(L:Int):=by omega
 have j2:¬ (j:Int)<0:=by omega
 have j3:(0:Int)<(j:Int):=by omega
 have j4:j+1<=cc:=by omega
 have y0:¬ (y:Int)=0:=by omega
 have hcw:∀ W,Below w.heap.size w W->W.cell? (a.add j)=some (.int .u8 (y:Nat)):=fun W hW=>(hW.cell (World.block_lt_of_cell? w _ hc)).trans hc
 have d9:¬ (j:Int)=9:=by omega
 clear hi e hl10 hL hy h0;refine (callsIn_wide (n:=3)).1 ?_;refine callsIn_of_wp_marks Tryz.func205 rfl trivial ?_ rfl;simp only [Tryz.ntmps205,List.size_toArray,List.length_cons,List.length_nil,Nat.reduceAdd,Nat.reduceSub,Array.replicate_succ,Array.replicate_zero,List.push_toArray,List.append_toArray,List.nil_append,List.cons_append]
 gi_wp2_with (first
  | (refine ⟨trivial,?_⟩;gi_at_call 221;refine (callsIn_wide.2 (back_go _ _ _ _)).mono ?_;rintro e w2 ⟨rfl,rfl⟩)
  | (refine ⟨trivial,?_⟩;gi_at_call 219;refine (callsIn_wide.2 hI).mono ?_;rintro e w1 ⟨rfl,hb⟩;have hcx:=hcw w1 hb))
 have hlen:(b.take (j+1)).length=(j+1):=by rw [lK];omega
 have hW2:Below w.heap.size w ((w1.alloc (.cells #[.int .u64 0] 34)).alloc (.cells #[.slice (some a) (j+1) cc] 23)):=(hb.alloc hb.size _).alloc (by have:=hb.size;simp;omega) _
 have hcs:∀ i,i<(b.take (j+1)).length->((w1.alloc (.cells #[.int .u64 0] 34)).alloc (.cells #[.slice (some a) (j+1) cc] 23)).cell? (a.add i)=some (.int .u8 (((b.take (j+1)).getD i 0).toNat:Int)):=fun i hi=>by
  obtain ⟨a',e',_,h2⟩:=hr.2 (by omega)
  cases e'
  have hib:i<b.length:=by omega
  have:=h2 i (.int .u8 ((b.getD i 0).toNat:Int)) (by unfold bl;rw [List.getElem?_map,gE hib,List.getD_eq_getElem?_getD,gE hib];rfl);rw [hW2.cell (p:=a.add i) (World.block_lt_of_cell? w _ this),this];congr 3;rw [List.getD_eq_getElem?_getD,List.getD_eq_getElem?_getD,List.getElem?_take,if_pos (by omega)]
 have hst:=back_stops Fence.wide 2 trivial rfl (by omega) (w1.heap.size+1) w1.heap.size cc a (b.take (j+1)) (by omega) _ (by simp) (by simp;omega) (lT haw hb.size) (by
  have:=Blk.new (w1.alloc (.cells #[.int .u64 0] 34)) 23 #[.slice (some a) (j+1) cc];rw [hlen];have h:=this.cell 0
  simp) hcs
 have hKb:∀ (W:World) (l:Nat) (o o':Obj),w1.heap.size+1+1<=l->W.heap[l]?=some o->o.isCells=false->o.isWalk=false->KeepB w1.heap.size (w1.heap.size+1) W (W.putObj l o'):=fun W l o o' hl ho h1 h2 =>
  ⟨Below.mono (belowK_b (w:=w1) (nR _) W l o o' (by omega) ho h1 h2) (nR _),by
   have hlt:l<W.heap.size:=(aS.1 ho).1
   simp [World.putObj,World.cell?,Array.getElem?_setIfInBounds,show l≠w1.heap.size+1 by omega]⟩
 have hAcc:=backN_all (b.take (j+1));rw [hlen] at hAcc
 refine' wpIn_rangeFunc_ownG rfl (by omega) (gf:=225) (lb:=#[.pointer (some ⟨w1.heap.size+1,0,none⟩)]) rfl trivial (enters_of Tryz.func225 (by kernel_rfl) rfl) hst keepB_t ?hkb (bR _ _) (fun _=>rfl)
  (fun pre W=>(W.cell? ⟨w1.heap.size,0,none⟩=some (.int .u64 (accM pre:Nat))/\W.frozen? ⟨w1.heap.size,0,none⟩=false)/\Below w.heap.size w W)
  (fun _ _ _=>False) ?hi ?hix ?h0 _ ?assign ?body ?done ?stop
 case hkb=>exact fun W l o o' hl=>hKb W l o o' (by simpa using hl)
 case hi=>exact OwnFrom.and (Own.from (fun s A B row hs hg hr=>⟨cell_kept hs.1 hg hr,(frozen_kept hs.1 hg hr).trans hs.2⟩) _) (ownFrom_below (nR _) (by have:=hb.size;simp;omega))
 case hix=>exact fun _ _ _ _ _ hs _ _=>hs
 case h0 =>
  have bS:=Boxed.new w1 34 (.int .u64 0);exact ⟨⟨(bS.alloc _).cell,(bS.alloc _).frozen⟩,hW2⟩
 case assign =>
  intro l x W K hK
  gi_wp2
  exact hK
 case body =>
  rintro l pre x W ⟨⟨hca,hfa⟩,hBa⟩ hp;have hv:=accM_step pre x
  gi_wp2
  exact ⟨(KeepsOthers.setCell _ _ _).from _,⟨(bR w1.heap.size W).setCell (p:=⟨w1.heap.size,0,none⟩) (nR _) _,World.cell?_setCell_far _ _ _ _ (by simp)⟩,⟨by exact World.cell?_setCell_same' _ _ _ (by rw [hca];rfl),by rw [World.frozen?_setCell];exact hfa⟩,hBa.setCell (p:=⟨w1.heap.size,0,none⟩) hb.size _⟩
 case done =>
  rintro D ys W hD rfl ⟨⟨hca,_⟩,hBa⟩ hK
  gi_wp2
  refine ⟨by simp,.inl ⟨_,_,rfl,run_takeDeferred hK,?_⟩⟩;refine ⟨_,results_tmp3 rfl _ _ _,?_,hBa.trans (belowK_b (w:=w) (nR _) W D _ _ (by have:=hb.size;simp at hD;omega) hK rfl rfl)⟩;rw [<-hAcc,<-show accM _=accN _ from Nat.mod_eq_of_lt (by rw [hAcc];exact hbn)];rfl
 case stop =>
  rintro D c pre W _ _ h _;exact h.elim
theorem VGet_one {B:Nat} (a:Addr) (cc L:Nat) (b:List UInt8) (w:World) (hB:B<=w.heap.size) (hr:Reads w B 1 (some a) b.length (bl b)) (hcap:b.length<=cc) (hL:L=min b.length 10) (hi:low (b.take 10) 0=some 0) :
 Calls Tryz.prog 205 #[.slice (some a) b.length cc] w fun e w'=>e=.returned (.tuple #[.int .u64 (backN (b.take 1):Nat),.int .i64 1,.int .i64 0])/\Below w.heap.size w w':=by
 have hl10:(b.take 10).length=L:=by rw [lK];omega
 have hI:=LowIndex_any (some a) cc (b.take 10) (by rw [hl10];have:=reads_take (n:=L) hr (by omega);rwa [show b.take L=b.take 10 by rw [hL,Nat.min_comm,<-List.take_take,List.take_length]] at this) hB (by omega)
 have e:lowI (b.take 10)=0:=by unfold lowI;rw [hi];rfl
 rw [e,hl10] at hI;have hjl:=(low_ge _ _ _ hi).2;rw [hl10] at hjl
 have hmin:min (b.length:Int) 10=(L:Int):=by omega
 have hmif:(if (10:Int)<(b.length:Int) then (10:Int) else (b.length:Int))=(L:Int):=by split <;> omega
 have hjb:0<b.length:=by omega
 have haw:=reads_low hr (by omega);have hbn:=backN_fit (b.take 1) (by rw [lK];omega)
 have b0:L<=cc:=by omega
 have b1:L<=b.length:=by omega
 have j1:(0:Int)<(L:Int):=by omega
 have j4:1<=cc:=by omega
 clear hi e hl10 hL;refine (callsIn_wide (n:=3)).1 ?_;refine callsIn_of_wp_marks Tryz.func205 rfl trivial ?_ rfl;simp only [Tryz.ntmps205,List.size_toArray,List.length_cons,List.length_nil,Nat.reduceAdd,Nat.reduceSub,Array.replicate_succ,Array.replicate_zero,List.push_toArray,List.append_toArray,List.nil_append,List.cons_append]
 gi_wp2_with (first
  | (refine ⟨trivial,?_⟩;gi_at_call 221;refine (callsIn_wide.2 (back_go _ _ _ _)).mono ?_;rintro e w2 ⟨rfl,rfl⟩)
  | (refine ⟨trivial,?_⟩;gi_at_call 219;refine (callsIn_wide.2 hI).mono ?_;rintro e w1 ⟨rfl,hb⟩))
 have hlen:(b.take 1).length=1:=by rw [lK];omega
 have hW2:Below w.heap.size w ((w1.alloc (.cells #[.int .u64 0] 34)).alloc (.cells #[.slice (some a) 1 cc] 23)):=(hb.alloc hb.size _).alloc (by have:=hb.size;simp;omega) _
 have hcs:∀ i,i<(b.take 1).length->((w1.alloc (.cells #[.int .u64 0] 34)).alloc (.cells #[.slice (some a) 1 cc] 23)).cell? (a.add i)=some (.int .u8 (((b.take 1).getD i 0).toNat:Int)):=fun i hi=>by
  obtain ⟨a',e',_,h2⟩:=hr.2 (by omega)
  cases e'
  have hib:i<b.length:=by omega
  have:=h2 i (.int .u8 ((b.getD i 0).toNat:Int)) (by unfold bl;rw [List.getElem?_map,gE hib,List.getD_eq_getElem?_getD,gE hib];rfl);rw [hW2.cell (p:=a.add i) (World.block_lt_of_cell? w _ this),this];congr 3;rw [List.getD_eq_getElem?_getD,List.getD_eq_getElem?_getD,List.getElem?_take,if_pos (by omega)]
 have hst:=back_stops Fence.wide 2 trivial rfl (by omega) (w1.heap.size+1) w1.heap.size cc a (b.take 1) (by omega) _ (by simp) (by simp;omega) (lT haw hb.size) (by
  have:=Blk.new (w1.alloc (.cells #[.int .u64 0] 34)) 23 #[.slice (some a) 1 cc];rw [hlen];have h:=this.cell 0
  simp) hcs
 have hKb:∀ (W:World) (l:Nat) (o o':Obj),w1.heap.size+1+1<=l->W.heap[l]?=some o->o.isCells=false->o.isWalk=false->KeepB w1.heap.size (w1.heap.size+1) W (W.putObj l o'):=fun W l o o' hl ho h1 h2 =>
  ⟨Below.mono (belowK_b (w:=w1) (nR _) W l o o' (by omega) ho h1 h2) (nR _),by
   have hlt:l<W.heap.size:=(aS.1 ho).1
   simp [World.putObj,World.cell?,Array.getElem?_setIfInBounds,show l≠w1.heap.size+1 by omega]⟩
 have hAcc:=backN_all (b.take 1);rw [hlen] at hAcc
 refine' wpIn_rangeFunc_ownG rfl (by omega) (gf:=225) (lb:=#[.pointer (some ⟨w1.heap.size+1,0,none⟩)]) rfl trivial (enters_of Tryz.func225 (by kernel_rfl) rfl) hst keepB_t ?hkb (bR _ _) (fun _=>rfl)
  (fun pre W=>(W.cell? ⟨w1.heap.size,0,none⟩=some (.int .u64 (accM pre:Nat))/\W.frozen? ⟨w1.heap.size,0,none⟩=false)/\Below w.heap.size w W)
  (fun _ _ _=>False) ?hi ?hix ?h0 _ ?assign ?body ?done ?stop
 case hkb=>exact fun W l o o' hl=>hKb W l o o' (by simpa using hl)
 case hi=>exact OwnFrom.and (Own.from (fun s A B row hs hg hr=>⟨cell_kept hs.1 hg hr,(frozen_kept hs.1 hg hr).trans hs.2⟩) _) (ownFrom_below (nR _) (by have:=hb.size;simp;omega))
 case hix=>exact fun _ _ _ _ _ hs _ _=>hs
 case h0 =>
  have bS:=Boxed.new w1 34 (.int .u64 0);exact ⟨⟨(bS.alloc _).cell,(bS.alloc _).frozen⟩,hW2⟩
 case assign =>
  intro l x W K hK
  gi_wp2
  exact hK
 case body =>
  rintro l pre x W ⟨⟨hca,hfa⟩,hBa⟩ hp;have hv:=accM_step pre x
  gi_wp2
  exact ⟨(KeepsOthers.setCell _ _ _).from _,⟨(bR w1.heap.size W).setCell (p:=⟨w1.heap.size,0,none⟩) (nR _) _,World.cell?_setCell_far _ _ _ _ (by simp)⟩,⟨by exact World.cell?_setCell_same' _ _ _ (by rw [hca];rfl),by rw [World.frozen?_setCell];exact hfa⟩,hBa.setCell (p:=⟨w1.heap.size,0,none⟩) hb.size _⟩
 case done =>
  rintro D ys W hD rfl ⟨⟨hca,_⟩,hBa⟩ hK
  gi_wp2
  refine ⟨by simp,.inl ⟨_,_,rfl,run_takeDeferred hK,?_⟩⟩;refine ⟨_,results_tmp3 rfl _ _ _,?_,hBa.trans (belowK_b (w:=w) (nR _) W D _ _ (by have:=hb.size;simp at hD;omega) hK rfl rfl)⟩;rw [<-hAcc,<-show accM _=accN _ from Nat.mod_eq_of_lt (by rw [hAcc];exact hbn)];rfl
 case stop =>
  rintro D c pre W _ _ h _;exact h.elim
theorem VGet_ten {B:Nat} (a:Addr) (cc:Nat) (b:List UInt8) (w:World) (hB:B<=w.heap.size) (hr:Reads w B 1 (some a) b.length (bl b)) (hcap:b.length<=cc) (hl:10<=b.length) (hi:low (b.take 10) 0=some 9) (hy:(b.getD 9 0).toNat=1) :
 Calls Tryz.prog 205 #[.slice (some a) b.length cc] w fun e w'=>e=.returned (.tuple #[.int .u64 (backN (b.take 10):Nat),.int .i64 10,.int .i64 0])/\Below w.heap.size w w':=by
 have hl10:(b.take 10).length=10:=by rw [lK];omega
 have hI:=LowIndex_any (some a) cc (b.take 10) (by rw [hl10];exact reads_take hr hl) hB (by omega)
 have e:lowI (b.take 10)=9:=by unfold lowI;rw [hi];rfl
 rw [e,hl10] at hI
 have hmin:min (b.length:Int) 10=10:=by omega
 have hmif:(if (10:Int)<(b.length:Int) then (10:Int) else (b.length:Int))=10:=by split <;> omega
 have hc:w.cell? (a.add 9)=some (.int .u8 1):=by have:=reads_cell hr 9 (by omega);rw [hy] at this;exact this
 have haw:=reads_low hr (by omega);have hbn:=backN_fit10 b (by omega) (by omega)
 have b0:10<=cc:=by omega
 have hcw:∀ W,Below w.heap.size w W->W.cell? (a.add 9)=some (.int .u8 1):=fun W hW=>(hW.cell (World.block_lt_of_cell? w _ hc)).trans hc;clear hi e hl10 hy;refine (callsIn_wide (n:=3)).1 ?_;refine callsIn_of_wp_marks Tryz.func205 rfl trivial ?_ rfl;simp only [Tryz.ntmps205,List.size_toArray,List.length_cons,List.length_nil,Nat.reduceAdd,Nat.reduceSub,Array.replicate_succ,Array.replicate_zero,List.push_toArray,List.append_toArray,List.nil_append,List.cons_append]
 gi_wp2_with (first
  | (refine ⟨trivial,?_⟩;gi_at_call 221;refine (callsIn_wide.2 (back_go _ _ _ _)).mono ?_;rintro e w2 ⟨rfl,rfl⟩)
  | (refine ⟨trivial,?_⟩;gi_at_call 219;refine (callsIn_wide.2 hI).mono ?_;rintro e w1 ⟨rfl,hb⟩;have hcx:=hcw w1 hb;have hcz:w1.cell? ⟨a.block,a.off+9,none⟩=some (.int .u8 1):=(by simpa [Addr.add] using hcx)))
 have hlen:(b.take 10).length=10:=by rw [lK];omega
 have hW2:Below w.heap.size w ((w1.alloc (.cells #[.int .u64 0] 34)).alloc (.cells #[.slice (some a) 10 cc] 23)):=(hb.alloc hb.size _).alloc (by have:=hb.size;simp;omega) _
 have hcs:∀ i,i<(b.take 10).length->((w1.alloc (.cells #[.int .u64 0] 34)).alloc (.cells #[.slice (some a) 10 cc] 23)).cell? (a.add i)=some (.int .u8 (((b.take 10).getD i 0).toNat:Int)):=fun i hi=>by
  obtain ⟨a',e',_,h2⟩:=hr.2 (by omega)
  cases e'
  have hib:i<b.length:=by omega
  have:=h2 i (.int .u8 ((b.getD i 0).toNat:Int)) (by unfold bl;rw [List.getElem?_map,gE hib,List.getD_eq_getElem?_getD,gE hib];rfl);rw [hW2.cell (p:=a.add i) (World.block_lt_of_cell? w _ this),this];congr 3;rw [List.getD_eq_getElem?_getD,List.getD_eq_getElem?_getD,List.getElem?_take,if_pos (by omega)]
 have hst:=back_stops Fence.wide 2 trivial rfl (by omega) (w1.heap.size+1) w1.heap.size cc a (b.take 10) (by omega) _ (by simp) (by simp;omega) (lT haw hb.size) (by
  have:=Blk.new (w1.alloc (.cells #[.int .u64 0] 34)) 23 #[.slice (some a) 10 cc];rw [hlen];have h:=this.cell 0
  simp) hcs
 have hKb:∀ (W:World) (l:Nat) (o o':Obj),w1.heap.size+1+1<=l->W.heap[l]?=some o->o.isCells=false->o.isWalk=false->KeepB w1.heap.size (w1.heap.size+1) W (W.putObj l o'):=fun W l o o' hl ho h1 h2 =>
  ⟨Below.mono (belowK_b (w:=w1) (nR _) W l o o' (by omega) ho h1 h2) (nR _),by
   have hlt:l<W.heap.size:=(aS.1 ho).1
   simp [World.putObj,World.cell?,Array.getElem?_setIfInBounds,show l≠w1.heap.size+1 by omega]⟩
 have hAcc:=backN_all (b.take 10);rw [hlen] at hAcc
 refine' wpIn_rangeFunc_ownG rfl (by omega) (gf:=225) (lb:=#[.pointer (some ⟨w1.heap.size+1,0,none⟩)]) rfl trivial (enters_of Tryz.func225 (by kernel_rfl) rfl) hst keepB_t ?hkb (bR _ _) (fun _=>rfl)
  (fun pre W=>(W.cell? ⟨w1.heap.size,0,none⟩=some (.int .u64 (accM pre:Nat))/\W.frozen? ⟨w1.heap.size,0,none⟩=false)/\Below w.heap.size w W)
  (fun _ _ _=>False) ?hi ?hix ?h0 _ ?assign ?body ?done ?stop
 case hkb=>exact fun W l o o' hl=>hKb W l o o' (by simpa using hl)
 case hi=>exact OwnFrom.and (Own.from (fun s A B row hs hg hr=>⟨cell_kept hs.1 hg hr,(frozen_kept hs.1 hg hr).trans hs.2⟩) _) (ownFrom_below (nR _) (by have:=hb.size;simp;omega))
 case hix=>exact fun _ _ _ _ _ hs _ _=>hs
 case h0 =>
  have bS:=Boxed.new w1 34 (.int .u64 0);exact ⟨⟨(bS.alloc _).cell,(bS.alloc _).frozen⟩,hW2⟩
 case assign =>
  intro l x W K hK
  gi_wp2
  exact hK
 case body =>
  rintro l pre x W ⟨⟨hca,hfa⟩,hBa⟩ hp;have hv:=accM_step pre x
  gi_wp2
  exact ⟨(KeepsOthers.setCell _ _ _).from _,⟨(bR w1.heap.size W).setCell (p:=⟨w1.heap.size,0,none⟩) (nR _) _,World.cell?_setCell_far _ _ _ _ (by simp)⟩,⟨by exact World.cell?_setCell_same' _ _ _ (by rw [hca];rfl),by rw [World.frozen?_setCell];exact hfa⟩,hBa.setCell (p:=⟨w1.heap.size,0,none⟩) hb.size _⟩
 case done =>
  rintro D ys W hD rfl ⟨⟨hca,_⟩,hBa⟩ hK
  gi_wp2
  refine ⟨by simp,.inl ⟨_,_,rfl,run_takeDeferred hK,?_⟩⟩;refine ⟨_,results_tmp3 rfl _ _ _,?_,hBa.trans (belowK_b (w:=w) (nR _) W D _ _ (by have:=hb.size;simp at hD;omega) hK rfl rfl)⟩;rw [<-hAcc,<-show accM _=accN _ from Nat.mod_eq_of_lt (by rw [hAcc];exact hbn)];rfl
 case stop =>
  rintro D c pre W _ _ h _;exact h.elim
theorem VGet_all:VGetOK:=by
 intro B A cc b w hB hr hl hcap;rw [getN_getV];unfold getV
 cases hi:low (b.take 10) 0 with
 | none =>
  by_cases h:b.length<10
  ·simp only [if_pos h];rw [List.take_of_length_le (by omega)] at hi;exact VGet_short A cc b w hB hr hcap h hi
  ·simp only [if_neg h];exact VGet_wide A cc b w hB hr hcap (by omega) hi
 | some j =>
  have hj:=(low_ge _ _ _ hi).2;rw [lK] at hj;obtain ⟨a,rfl,_,_⟩:=hr.2 (by omega);simp only [Nat.sub_zero];by_cases h1:j=9/\1<(b.getD j 0).toNat
  ·simp only [if_pos h1];obtain ⟨rfl,h1⟩:=h1;exact VGet_nine a cc b w hB hr hcap (by omega) hi rfl h1
  simp only [if_neg h1];by_cases h2:0<j/\(b.getD j 0).toNat=0
  ·simp only [if_pos h2];exact VGet_form a cc _ j b w hB hr hcap rfl hi h2.1 h2.2
  simp only [if_neg h2];by_cases h3:j=0
  ·subst h3;exact VGet_one a cc _ b w hB hr hcap rfl hi
  by_cases h4:j=9
  ·subst h4;exact VGet_ten a cc b w hB hr hcap (by omega) hi (by omega)
  exact VGet_go a cc _ j _ b w hB hr hcap rfl hi (by omega) h4 rfl (by omega)
theorem Number_long (A:Option Addr) (n c:Nat) (w:World) (h8:8<n) :
 Calls Tryz.prog 113 #[.slice A n c] w fun e w'=>e=.returned (.int .u64 0)/\w=w':=by
 have b8:decide (8<(n:Int))=true:=dT (by omega);have b9:decide (8<n)=true:=dT h8;go_enter Tryz.func113,Tryz.ntmps113;go_wp2;go_ret;exact ⟨rfl,rfl⟩
def numL (b:List UInt8):Nat:=if b.length<=8 then numN b else 0
theorem numL_lt (b:List UInt8):numL b<18446744073709551616:=by
 unfold numL
 split
 ·rename_i h;exact lT (numN_lt b) (nT (Nat.pow_le_pow_right (by decide) h) (by decide))
 ·decide
theorem Number_all {B:Nat} (A:Option Addr) (c:Nat) (b:List UInt8) (w:World) (hr:Reads w B 1 A b.length (bl b)) :
 Calls Tryz.prog 113 #[.slice A b.length c] w fun e w'=>e=.returned (.int .u64 (numL b))/\w=w':=by
 unfold numL;by_cases h:b.length<=8
 ·rw [if_pos h];exact Number_any A c b w hr h
 ·rw [if_neg h];exact Number_long A b.length c w (by omega)
theorem own_ltN {W:World} {base n size:Nat} {e:TypeId} {A:Option Addr} {c:Nat} {xs:List Value} (h:W.ownsRow base e size (.slice A n c) n xs):∀ ad,A=some ad->ad.block<W.heap.size:=by
 rintro ad rfl
 rcases h.2 with ⟨h0,_⟩ | ⟨g,cap,cur,e1,e2,e3,_⟩
 ·cases h0
 ·simp only [Value.slice.injEq,Option.some.injEq] at e1;rw [e1.1];exact (aS.1 e3).1
theorem own_frN {W W':World} {base n size:Nat} {e:TypeId} {A:Option Addr} {c:Nat} {xs:List Value} {X:Nat->Prop} (h:W.ownsRow base e size (.slice A n c) n xs) (hf:Fr X W W') (hX:∀ ad,A=some ad->¬ X ad.block):W'.ownsRow base e size (.slice A n c) n xs :=
 own_sameN h fun ad e=>hf.block ad.block (own_ltN h ad e) (hX ad e)
theorem GetLeaf_nil {B:Nat} (A:Option Addr) (c:Nat) (w:World) (hB:B<=w.heap.size) (hr:Reads w B 1 A ([]:List UInt8).length (bl [])) (hc:([]:List UInt8).length<=c) (hl:([]:List UInt8).length<=1000) :
 Calls Tryz.prog 171 #[.slice A ([]:List UInt8).length c] w fun e w'=>CellR (leafG []) w.heap.size e w'/\Below w.heap.size w w':=by
 obtain ⟨w0,hw0⟩:∃ w0,w0=w.alloc (.cells #[.slice none 0 0,.int .i64 0,.slice none 0 0,.int .u32 0,.int .u32 0] 113):=⟨_,rfl⟩
 have hb0:Below w.heap.size w w0:=by rw [hw0];exact (bR _ w).alloc (nR _) _
 have hZ0:Blk w0 w.heap.size 113 #[.slice none 0 0,.int .i64 0,.slice none 0 0,.int .u32 0,.int .u32 0]:=by rw [hw0];exact Blk.new _ _ _
 have hCu:=cutter_any A ([]:List UInt8).length c w0
 obtain ⟨w1,hw1⟩:∃ w1,w1=w0.alloc (.cells #[.slice A ([]:List UInt8).length c] 23):=⟨_,rfl⟩
 have hb1:Below w0.heap.size w0 w1:=by rw [hw1];exact (bR _ w0).alloc (nR _) _
 have hK1:Blk w1 w0.heap.size 23 #[.slice A ([]:List UInt8).length c]:=by rw [hw1];exact Blk.new _ _ _
 rw [<-hw1] at hCu
 obtain ⟨g,HG⟩:∃ g,Hid (w0.heap.size=g):=⟨_,lH rfl⟩
 rw [HG.out] at hCu hK1;have hb01:Below w.heap.size w w1:=hb0.trans (hb1.mono hb0.size)
 have hg0:w.heap.size<=g:=by have:=HG.out;have:=hb0.size;omega
 have hBg:B<=g:=nT hB hg0;have hC1:=cut_let hK1 (hr.below (hb01.mono hB)) hc hl 1 (by omega) hBg;unfold closC at hCu;have HW0:=lH hw0;clear hw0 hw1;go_enter Tryz.func171,Tryz.ntmps171
 go_wp2_with (first
  | (go_at_call 218;refine hC1.mono ?_;rintro e w3 ⟨kb,r0,A1,A2,c2,HP1,rfl,hk3,hc2,hr2,hK3,hb3,hf3⟩;have hn0:((kb.length:Int)==0)=true:=(by rw [HP1.out.1];rfl);have hb1g:Below w0.heap.size w0 w3:=hb1.trans (hb3.mono (by rw [HG.out];exact nR _));have R9:=hZ0.below hb1g hZ0.lt)
  | (rw [<-HW0.out];go_at_call 204;refine hCu.mono ?_;rintro e w2 ⟨rfl,h2⟩;have h2:=h2.symm;subst h2)
  | (refine wpList_store_row rfl 113 (.tmp 2) (.tmp 20) rfl w.heap.size _ rfl rfl 113 _ R9 (by kernel_rfl) rfl (by simp [Value.oneCell']) ?_))
 refine bodyPost_ret (rT rfl _ _ w.heap.size 113 _ (0,0) _ rfl (setRow_heap _ _ _ _ _ _ R9) Tryz.underlying113 rfl (by kernel_rfl)) rfl ?_;have hb10:Below w.heap.size w w3:=hb0.trans (hb1g.mono hb0.size);exact ⟨rfl,hb10.trans ((fS _ w.heap.size _).below (B:=w.heap.size) hb10.size (fun k hk=>by omega))⟩
theorem GetLeaf_err {B:Nat} (A:Option Addr) (c:Nat) (b:List UInt8) (w:World) (hB:B<=w.heap.size) (hr:Reads w B 1 A b.length (bl b)) (hc:b.length<=c) (hl:b.length<=1000) {n0:UInt8} {r:List UInt8} (hbb:n0::r=b) (her:(getN (r.drop n0.toNat)).2.2≠0) :
 Calls Tryz.prog 171 #[.slice A b.length c] w fun e w'=>CellR (leafG b) w.heap.size e w'/\Below w.heap.size w w':=by
 obtain ⟨w0,hw0⟩:∃ w0,w0=w.alloc (.cells #[.slice none 0 0,.int .i64 0,.slice none 0 0,.int .u32 0,.int .u32 0] 113):=⟨_,rfl⟩
 have hb0:Below w.heap.size w w0:=by rw [hw0];exact (bR _ w).alloc (nR _) _
 have hZ0:Blk w0 w.heap.size 113 #[.slice none 0 0,.int .i64 0,.slice none 0 0,.int .u32 0,.int .u32 0]:=by rw [hw0];exact Blk.new _ _ _
 have hCu:=cutter_any A b.length c w0
 obtain ⟨w1,hw1⟩:∃ w1,w1=w0.alloc (.cells #[.slice A b.length c] 23):=⟨_,rfl⟩
 have hb1:Below w0.heap.size w0 w1:=by rw [hw1];exact (bR _ w0).alloc (nR _) _
 have hK1:Blk w1 w0.heap.size 23 #[.slice A b.length c]:=by rw [hw1];exact Blk.new _ _ _
 rw [<-hw1] at hCu
 obtain ⟨g,HG⟩:∃ g,Hid (w0.heap.size=g):=⟨_,lH rfl⟩
 rw [HG.out] at hCu hK1;have hb01:Below w.heap.size w w1:=hb0.trans (hb1.mono hb0.size)
 have hg0:w.heap.size<=g:=by have:=HG.out;have:=hb0.size;omega
 have hBg:B<=g:=nT hB hg0;have hC1:=cut_let hK1 (hr.below (hb01.mono hB)) hc hl 1 (by omega) hBg;unfold closC at hCu;have HW0:=lH hw0;clear hw0 hw1;have HB:=lH hbb;clear hbb
 have hb1':0<b.length:=by rw [<-HB.out];simp
 obtain ⟨a,rfl,ha0,_⟩:=hr.2 hb1';have h8:=n0.toNat_lt
 have cw8:IntKind.i64.wrap (n0.toNat:Int)=(n0.toNat:Int):=by rw [IntKind.wrap_i64];omega
 have cw9:IntKind.i64.wrap (1+(n0.toNat:Int))=1+(n0.toNat:Int):=by rw [IntKind.wrap_i64];omega
 obtain ⟨k,HKm⟩:∃ k,Hid (min (1+n0.toNat) b.length=k):=⟨_,lH rfl⟩
 have kle:k<=b.length:=by rw [<-HKm.out];omega
 have mI:min (1+(n0.toNat:Int)) (b.length:Int)=(k:Int):=by rw [<-HKm.out];omega
 have mI2:(if 1+(n0.toNat:Int)<=(b.length:Int) then 1+(n0.toNat:Int) else (b.length:Int))=(k:Int):=by rw [<-HKm.out];split <;> omega
 have mI3:(if (b.length:Int)<1+(n0.toNat:Int) then (b.length:Int) else 1+(n0.toNat:Int))=(k:Int):=by rw [<-HKm.out];split <;> omega
 have k1:(k:Int)<=(b.length:Int):=by omega
 have k2:(b.length:Int)<=(c:Int):=by omega
 have k3:¬ (k:Int)<0:=by omega
 have k4:(k:Int)<=(c:Int):=by omega
 obtain ⟨D,HD⟩:∃ D,Hid (r.drop n0.toNat=D):=⟨_,lH rfl⟩
 have hDl:b.length-k=D.length:=by rw [<-HD.out,<-HKm.out,lD,<-HB.out,List.length_cons];omega
 obtain ⟨a2,ha2,hDR⟩:∃ a2,(if c=k then some a else some (a.add k))=some a2/\Reads w B 1 (some a2) D.length (bl D):=by
  by_cases hd0:D.length=0
  ·refine ⟨if c=k then a else a.add k,by split <;> rfl,by rw [bl_len,hd0],fun h=>absurd h (by omega)⟩
  ·refine ⟨a.add k,by rw [if_neg (by omega)],?_⟩
   have e:D=b.drop k:=by rw [<-HD.out,<-HB.out,show k=n0.toNat+1 by have:=HKm.out;omega];rfl
   rw [e,lD];exact reads_drop hr (by omega)
 have HDR:=lH hDR;clear hDR
 obtain ⟨v,HV1⟩:∃ v,Hid ((getN D).1=v):=⟨_,lH rfl⟩
 obtain ⟨wd,HV2⟩:∃ v,Hid ((getN D).2.1=v):=⟨_,lH rfl⟩
 obtain ⟨er,HV3⟩:∃ v,Hid ((getN D).2.2=v):=⟨_,lH rfl⟩
 have hDl2:D.length<=b.length:=by omega
 have hLR:leafR b=if er≠0\/1000<v then none else some (if v<=40 then ⟨r.take n0.toNat,(v:Nat),D.drop wd,0,0⟩ else ⟨r.take n0.toNat,(v:Nat),[],(if (D.drop wd).length<=8 then numN (D.drop wd) % 4294967296 else 0),0⟩):=by
  rw [<-HB.out,<-HV1.out,<-HV2.out,<-HV3.out,<-HD.out];rfl
 rw [HD.out,HV3.out] at her
 have hg:leafG b=none:=by unfold leafG;rw [hLR,if_pos (.inl her)]
 have e1:(er != 0)=true:=by simpa using her
 go_enter Tryz.func171,Tryz.ntmps171
 go_wp2_with (first
  | (rw [<-HW6.out];go_at_call 205;refine hV.mono ?_;rintro e w7 ⟨rfl,hb7⟩;have R7:=R6.below (hb7.mono (by have:=R6.lt;omega)) R6.lt)
  | (refine wpList_store_row rfl 113 _ _ rfl w.heap.size _ rfl rfl 113 _ R7 (by kernel_rfl) rfl (by simp [Value.oneCell']) ?_)
  | (go_at_call 68;refine hCl.mono ?_;rintro e w5 ⟨A6,c6,rfl,ho5,hb5⟩;have c35:=(hb5.cell (lT ha3 (nT hBg (Nat.le_of_lt hK4.lt)))).trans c34;obtain ⟨w6,hw6⟩:∃ w6,w6=w5.alloc (.cells #[.slice A6 kb2.length c6,.int .i64 0,.slice none 0 0,.int .u32 0,.int .u32 0] 113):=⟨_,rfl⟩;have hb6:Below w5.heap.size w5 w6:=(by rw [hw6];exact (bR _ _).alloc (nR _) _);have Z6:Blk w6 w5.heap.size 113 #[.slice A6 kb2.length c6,.int .i64 0,.slice none 0 0,.int .u32 0,.int .u32 0]:=(by rw [hw6];exact Blk.new _ _ _);have hg5:g<w5.heap.size:=(lT hK4.lt hb5.size);have hb56:Below w4.heap.size w4 w6:=(hb5.trans (hb6.mono hb5.size));have c36:(w5.alloc (.cells #[.slice A6 kb2.length c6,.int .i64 0,.slice none 0 0,.int .u32 0,.int .u32 0] 113)).cell? a3=some (.int .u8 (n0.toNat:Nat)):=(by rw [<-hw6];exact (hb6.cell (lT ha3 (nT hBg (Nat.le_of_lt hg5)))).trans c35);have hK6:=hK4.below hb56 hK4.lt;have hr6:=hr4.below (hb56.mono (nT hBg (Nat.le_of_lt hK4.lt)));have ho6:=own_belN ho5 hb6;have HW6:=lH hw6;have HZ6:=lH Z6;have hbg6:Below g w1 w6:=(hb3.trans hb4).trans (hb56.mono (Nat.le_of_lt hK4.lt));have hb0g:Below w0.heap.size w0 w6:=hb1.trans (hbg6.mono (by rw [HG.out];exact nR _));have hbw6:Below w.heap.size w w6:=hb0.trans (hb0g.mono hb0.size);have hV:=VGet_all (some a2) (c-k) D w6 (nT hB hbw6.size) (HDR.out.below (hbw6.mono hB)) (by omega) (by omega);rw [HV1.out,HV2.out,HV3.out] at hV;have R6:=hZ0.below hb0g hZ0.lt;clear hw6 Z6 c35)
  | (go_at_call 218;refine hC3.mono ?_;rintro e w4 ⟨kb2,r2,A5,A7,c7,HP3,rfl,hk4,hc4,hr4,hK4,hb4,hf4⟩;have hCl:=BClone_any A5 kb2.length kb2 w4 hk4 (nT hBg (Nat.le_of_lt hK4.lt)) (by rw [HP3.out.1,lK,HP1.out.2,lD];omega);have c34:=(hb4.cell (lT ha3 hBg)).trans c3)
  | (go_at_call 218;refine hC1.mono ?_;rintro e w3 ⟨kb,r0,A1,A2,c2,HP1,rfl,hk3,hc2,hr2,hK3,hb3,hf3⟩;have hkb:kb=[n0]:=(by rw [HP1.out.1,<-HB.out];rfl);have HNB:=lH hkb;have hn0:((kb.length:Int)==0)=false:=(by rw [hkb];rfl);have i2:0<kb.length:=(by rw [hkb];exact Nat.zero_lt_one);have i1:(0:Int)<(kb.length:Int):=(by omega);obtain ⟨a3,rfl,ha3,hc3⟩:=hk3.2 i2;have c3:=hc3 0 (.int .u8 (n0.toNat:Nat)) (by rw [hkb];rfl);rw [show a3.add 0=a3 by unfold Addr.add;rw [if_pos rfl]] at c3;have hC3:=cut_let hK3 hr2 hc2 (by rw [HP1.out.2,lD];omega) n0.toNat (by have:=n0.toNat_lt;omega) hBg;clear hC1 hc3 hkb)
  | (rw [<-HW0.out];go_at_call 204;refine hCu.mono ?_;rintro e w2 ⟨rfl,h2⟩;have h2:=h2.symm;subst h2))
 refine bodyPost_ret (rT rfl _ _ w.heap.size 113 _ (0,0) _ rfl (setRow_heap _ _ _ _ _ _ R7) Tryz.underlying113 rfl (by kernel_rfl)) rfl ?_;rw [hg];have hb10:=hbw6.trans (hb7.mono hbw6.size);exact ⟨rfl,hb10.trans ((fS _ w.heap.size _).below (B:=w.heap.size) hb10.size (fun k hk=>by omega))⟩
theorem GetLeaf_long {B:Nat} (A:Option Addr) (c:Nat) (b:List UInt8) (w:World) (hB:B<=w.heap.size) (hr:Reads w B 1 A b.length (bl b)) (hc:b.length<=c) (hl:b.length<=1000) {n0:UInt8} {r:List UInt8} (hbb:n0::r=b) (her:(getN (r.drop n0.toNat)).2.2=0) (hv:1000<(getN (r.drop n0.toNat)).1) :
 Calls Tryz.prog 171 #[.slice A b.length c] w fun e w'=>CellR (leafG b) w.heap.size e w'/\Below w.heap.size w w':=by
 obtain ⟨w0,hw0⟩:∃ w0,w0=w.alloc (.cells #[.slice none 0 0,.int .i64 0,.slice none 0 0,.int .u32 0,.int .u32 0] 113):=⟨_,rfl⟩
 have hb0:Below w.heap.size w w0:=by rw [hw0];exact (bR _ w).alloc (nR _) _
 have hZ0:Blk w0 w.heap.size 113 #[.slice none 0 0,.int .i64 0,.slice none 0 0,.int .u32 0,.int .u32 0]:=by rw [hw0];exact Blk.new _ _ _
 have hCu:=cutter_any A b.length c w0
 obtain ⟨w1,hw1⟩:∃ w1,w1=w0.alloc (.cells #[.slice A b.length c] 23):=⟨_,rfl⟩
 have hb1:Below w0.heap.size w0 w1:=by rw [hw1];exact (bR _ w0).alloc (nR _) _
 have hK1:Blk w1 w0.heap.size 23 #[.slice A b.length c]:=by rw [hw1];exact Blk.new _ _ _
 rw [<-hw1] at hCu
 obtain ⟨g,HG⟩:∃ g,Hid (w0.heap.size=g):=⟨_,lH rfl⟩
 rw [HG.out] at hCu hK1;have hb01:Below w.heap.size w w1:=hb0.trans (hb1.mono hb0.size)
 have hg0:w.heap.size<=g:=by have:=HG.out;have:=hb0.size;omega
 have hBg:B<=g:=nT hB hg0;have hC1:=cut_let hK1 (hr.below (hb01.mono hB)) hc hl 1 (by omega) hBg;unfold closC at hCu;have HW0:=lH hw0;clear hw0 hw1;have HB:=lH hbb;clear hbb
 have hb1':0<b.length:=by rw [<-HB.out];simp
 obtain ⟨a,rfl,ha0,_⟩:=hr.2 hb1';have h8:=n0.toNat_lt
 have cw8:IntKind.i64.wrap (n0.toNat:Int)=(n0.toNat:Int):=by rw [IntKind.wrap_i64];omega
 have cw9:IntKind.i64.wrap (1+(n0.toNat:Int))=1+(n0.toNat:Int):=by rw [IntKind.wrap_i64];omega
 obtain ⟨k,HKm⟩:∃ k,Hid (min (1+n0.toNat) b.length=k):=⟨_,lH rfl⟩
 have kle:k<=b.length:=by rw [<-HKm.out];omega
 have mI:min (1+(n0.toNat:Int)) (b.length:Int)=(k:Int):=by rw [<-HKm.out];omega
 have mI2:(if 1+(n0.toNat:Int)<=(b.length:Int) then 1+(n0.toNat:Int) else (b.length:Int))=(k:Int):=by rw [<-HKm.out];split <;> omega
 have mI3:(if (b.length:Int)<1+(n0.toNat:Int) then (b.length:Int) else 1+(n0.toNat:Int))=(k:Int):=by rw [<-HKm.out];split <;> omega
 have k1:(k:Int)<=(b.length:Int):=by omega
 have k2:(b.length:Int)<=(c:Int):=by omega
 have k3:¬ (k:Int)<0:=by omega
 have k4:(k:Int)<=(c:Int):=by omega
 obtain ⟨D,HD⟩:∃ D,Hid (r.drop n0.toNat=D):=⟨_,lH rfl⟩
 have hDl:b.length-k=D.length:=by rw [<-HD.out,<-HKm.out,lD,<-HB.out,List.length_cons];omega
 obtain ⟨a2,ha2,hDR⟩:∃ a2,(if c=k then some a else some (a.add k))=some a2/\Reads w B 1 (some a2) D.length (bl D):=by
  by_cases hd0:D.length=0
  ·refine ⟨if c=k then a else a.add k,by split <;> rfl,by rw [bl_len,hd0],fun h=>absurd h (by omega)⟩
  ·refine ⟨a.add k,by rw [if_neg (by omega)],?_⟩
   have e:D=b.drop k:=by rw [<-HD.out,<-HB.out,show k=n0.toNat+1 by have:=HKm.out;omega];rfl
   rw [e,lD];exact reads_drop hr (by omega)
 have HDR:=lH hDR;clear hDR
 obtain ⟨v,HV1⟩:∃ v,Hid ((getN D).1=v):=⟨_,lH rfl⟩
 obtain ⟨wd,HV2⟩:∃ v,Hid ((getN D).2.1=v):=⟨_,lH rfl⟩
 obtain ⟨er,HV3⟩:∃ v,Hid ((getN D).2.2=v):=⟨_,lH rfl⟩
 have hDl2:D.length<=b.length:=by omega
 have hLR:leafR b=if er≠0\/1000<v then none else some (if v<=40 then ⟨r.take n0.toNat,(v:Nat),D.drop wd,0,0⟩ else ⟨r.take n0.toNat,(v:Nat),[],(if (D.drop wd).length<=8 then numN (D.drop wd) % 4294967296 else 0),0⟩):=by
  rw [<-HB.out,<-HV1.out,<-HV2.out,<-HV3.out,<-HD.out];rfl
 rw [HD.out,HV3.out] at her;rw [HD.out,HV1.out] at hv
 have e1:(er != 0)=false:=by rw [her];rfl
 have hg:leafG b=none:=by unfold leafG;rw [hLR,if_pos (.inr hv)]
 have e2:decide (1000<(v:Int))=true:=dT (by omega);have e3:decide (1000<v)=true:=dT hv;go_enter Tryz.func171,Tryz.ntmps171
 go_wp2_with (first
  | (rw [<-HW6.out];go_at_call 205;refine hV.mono ?_;rintro e w7 ⟨rfl,hb7⟩;have R7:=R6.below (hb7.mono (by have:=R6.lt;omega)) R6.lt)
  | (refine wpList_store_row rfl 113 _ _ rfl w.heap.size _ rfl rfl 113 _ R7 (by kernel_rfl) rfl (by simp [Value.oneCell']) ?_)
  | (go_at_call 68;refine hCl.mono ?_;rintro e w5 ⟨A6,c6,rfl,ho5,hb5⟩;have c35:=(hb5.cell (lT ha3 (nT hBg (Nat.le_of_lt hK4.lt)))).trans c34;obtain ⟨w6,hw6⟩:∃ w6,w6=w5.alloc (.cells #[.slice A6 kb2.length c6,.int .i64 0,.slice none 0 0,.int .u32 0,.int .u32 0] 113):=⟨_,rfl⟩;have hb6:Below w5.heap.size w5 w6:=(by rw [hw6];exact (bR _ _).alloc (nR _) _);have Z6:Blk w6 w5.heap.size 113 #[.slice A6 kb2.length c6,.int .i64 0,.slice none 0 0,.int .u32 0,.int .u32 0]:=(by rw [hw6];exact Blk.new _ _ _);have hg5:g<w5.heap.size:=(lT hK4.lt hb5.size);have hb56:Below w4.heap.size w4 w6:=(hb5.trans (hb6.mono hb5.size));have c36:(w5.alloc (.cells #[.slice A6 kb2.length c6,.int .i64 0,.slice none 0 0,.int .u32 0,.int .u32 0] 113)).cell? a3=some (.int .u8 (n0.toNat:Nat)):=(by rw [<-hw6];exact (hb6.cell (lT ha3 (nT hBg (Nat.le_of_lt hg5)))).trans c35);have hK6:=hK4.below hb56 hK4.lt;have hr6:=hr4.below (hb56.mono (nT hBg (Nat.le_of_lt hK4.lt)));have ho6:=own_belN ho5 hb6;have HW6:=lH hw6;have HZ6:=lH Z6;have hbg6:Below g w1 w6:=(hb3.trans hb4).trans (hb56.mono (Nat.le_of_lt hK4.lt));have hb0g:Below w0.heap.size w0 w6:=hb1.trans (hbg6.mono (by rw [HG.out];exact nR _));have hbw6:Below w.heap.size w w6:=hb0.trans (hb0g.mono hb0.size);have hV:=VGet_all (some a2) (c-k) D w6 (nT hB hbw6.size) (HDR.out.below (hbw6.mono hB)) (by omega) (by omega);rw [HV1.out,HV2.out,HV3.out] at hV;have R6:=hZ0.below hb0g hZ0.lt;clear hw6 Z6 c35)
  | (go_at_call 218;refine hC3.mono ?_;rintro e w4 ⟨kb2,r2,A5,A7,c7,HP3,rfl,hk4,hc4,hr4,hK4,hb4,hf4⟩;have hCl:=BClone_any A5 kb2.length kb2 w4 hk4 (nT hBg (Nat.le_of_lt hK4.lt)) (by rw [HP3.out.1,lK,HP1.out.2,lD];omega);have c34:=(hb4.cell (lT ha3 hBg)).trans c3)
  | (go_at_call 218;refine hC1.mono ?_;rintro e w3 ⟨kb,r0,A1,A2,c2,HP1,rfl,hk3,hc2,hr2,hK3,hb3,hf3⟩;have hkb:kb=[n0]:=(by rw [HP1.out.1,<-HB.out];rfl);have HNB:=lH hkb;have hn0:((kb.length:Int)==0)=false:=(by rw [hkb];rfl);have i2:0<kb.length:=(by rw [hkb];exact Nat.zero_lt_one);have i1:(0:Int)<(kb.length:Int):=(by omega);obtain ⟨a3,rfl,ha3,hc3⟩:=hk3.2 i2;have c3:=hc3 0 (.int .u8 (n0.toNat:Nat)) (by rw [hkb];rfl);rw [show a3.add 0=a3 by unfold Addr.add;rw [if_pos rfl]] at c3;have hC3:=cut_let hK3 hr2 hc2 (by rw [HP1.out.2,lD];omega) n0.toNat (by have:=n0.toNat_lt;omega) hBg;clear hC1 hc3 hkb)
  | (rw [<-HW0.out];go_at_call 204;refine hCu.mono ?_;rintro e w2 ⟨rfl,h2⟩;have h2:=h2.symm;subst h2))
 refine bodyPost_ret (rT rfl _ _ w.heap.size 113 _ (0,0) _ rfl (setRow_heap _ _ _ _ _ _ R7) Tryz.underlying113 rfl (by kernel_rfl)) rfl ?_;rw [hg];have hb10:=hbw6.trans (hb7.mono hbw6.size);exact ⟨rfl,hb10.trans ((fS _ w.heap.size _).below (B:=w.heap.size) hb10.size (fun k hk=>by omega))⟩
end
end Go.Proofs.YtenfkghoolegfaaGreatDoor
