/- A part of the proof of PoolBack. No condition of its own. -/
import Derived.Test.YtenfkghoolegfaaGreatDoorVz
import Derived.Test.YtenfkghoolegfaaGreatDoorVk
import Derived.Test.YtenfkghoolegfaaGreatDoorProg
import Derived.WalkKit
import Derived.BigCall
import Derived.BigGuard
import Derived.BigFrame
import Derived.Lib.Hide
import Derived.Test.YtenfkghoolegfaaGreatDoorVj
import Derived.Test.YtenfkghoolegfaaGreatDoorVi
import Derived.Test.YtenfkghoolegfaaGreatDoorVf
import Derived.Deep.Fields
import Derived.DataReads
set_option maxHeartbeats 8000000
set_option maxRecDepth 1000000
set_option linter.unusedVariables false
namespace Go.Proofs.YtenfkghoolegfaaGreatDoor
section
open Go.RowKit
theorem rPut_nil (n v:Value) (w:World) (x:NX) (h:v=x.val):Calls Tryz.prog 56 #[.pointer none,n,v] w fun e w'=>e=.returned (.int .i64 7)/\Below w.heap.size w w':=by
 subst h;unfold NX.val nodeV;go_enter Tryz.func56,Tryz.ntmps56;go_wp2;go_ret;exact ⟨rfl,(bR _ _).alloc (nR _) _⟩
theorem rAlloc_nil (w:World):Calls Tryz.prog 57 #[.pointer none] w fun e w'=>e=.returned (.tuple #[.int .u32 0,.int .i64 7])/\w'=w:=by
 go_enter Tryz.func57,Tryz.ntmps57;go_wp2;go_ret2;exact ⟨rfl,rfl⟩
theorem rFree_nil (n:Value) (w:World):Calls Tryz.prog 42 #[.pointer none,n] w fun e w'=>e=.returned (.int .i64 7)/\w'=w:=by
 go_enter Tryz.func42,Tryz.ntmps42;go_wp2;go_ret;exact ⟨rfl,rfl⟩
theorem rRoot_nil (n:Value) (w:World):Calls Tryz.prog 59 #[.pointer none,n] w fun e w'=>e=.returned (.int .i64 7)/\w'=w:=by
 go_enter Tryz.func59,Tryz.ntmps59;go_wp2;go_ret;exact ⟨rfl,rfl⟩
theorem rCount_nil (n:Value) (w:World):Calls Tryz.prog 61 #[.pointer none,n] w fun e w'=>e=.returned (.int .i64 7)/\w'=w:=by
 go_enter Tryz.func61,Tryz.ntmps61;go_wp2;go_ret;exact ⟨rfl,rfl⟩
theorem rPage_nil (n:Value) (w:World):Calls Tryz.prog 75 #[.pointer none,n] w fun e w'=>e=.returned (.tuple #[.slice none 0 0,.int .i64 7])/\w'=w:=by
 go_enter Tryz.func75,Tryz.ntmps75;go_wp2;go_ret2;exact ⟨rfl,rfl⟩
theorem rNode_nil (n:Nat) (w:World):Calls Tryz.prog 63 #[.pointer none,.int .u32 (n:Nat)] w fun e w'=>e=.returned (.tuple #[zeroX.val,.int .i64 7])/\Below w.heap.size w w':=by
 have hP:=fun W=>rPage_nil (.int .u32 (n:Nat)) W
 obtain ⟨w1,hw1⟩:∃ w1,w1=w.alloc (.cells zeroCs 52):=⟨_,rfl⟩
 have hb1:Below w.heap.size w w1:=by rw [hw1];exact (bR _ w).alloc (nR _) _
 have hN1:Blk w1 w.heap.size 52 zeroCs:=by rw [hw1];exact Blk.new _ _ _
 unfold zeroCs at hw1 hN1;have HW1:=lH hw1;clear hw1;go_enter Tryz.func63,Tryz.ntmps63
 go_wp2_with (first
  | (rw [<-HW1.out];go_at_call 75;refine (hP _).mono ?_;rintro e w2 ⟨rfl,h2⟩;have h2:=h2.symm;subst h2)
  | (refine wpList_store_row rfl 52 _ _ rfl w.heap.size _ rfl rfl 52 _ hN1 (by kernel_rfl) rfl (by simp [Value.oneCell']) ?_))
 refine bodyPost_ret (rT rfl _ _ w.heap.size 52 _ (0,0) _ rfl (setRow_heap _ _ _ _ _ _ hN1) Tryz.underlying52 rfl (by kernel_rfl)) rfl ?_;exact ⟨rfl,hb1.trans ((fS _ w.heap.size _).below (B:=w.heap.size) hb1.size (fun k hk=>by omega))⟩
theorem rSame_zero (x:NX) (w:World) (hx:NodeAt w w.heap.size x):Calls Tryz.prog 64 #[x.val,zeroX.val] w fun e w'=>(∃ q,e=.returned (.bool q))/\Below w.heap.size w w':=by
 have hcv:=fun (o1 o2:Obj)=>conv_reads (w:=(w.alloc o1).alloc o2) x.dc (rM ((hx.data.alloc (nR _) o1).alloc (by simp) o2) (nR _));have hcz:=fun (W:World)=>conv_reads (B:=0) (A:=none) (b:=[]) (w:=W) 0 Reads.none_;unfold zeroX NX.val nodeV;dsimp only [List.length_nil];simp only [List.length_nil] at hcz;clear hx
 obtain ⟨ll,HLL⟩:∃ k,Hid (x.l.length=k):=⟨_,lH rfl⟩
 rw [HLL.out]
 rcases Nat.eq_zero_or_pos ll with rfl | hpos
 ·go_enter Tryz.func64,Tryz.ntmps64;go_wp2
  all_goals try (refine wp_loop_rounds 1 ?_;rw [rounds_succ];go_wp2)
  all_goals
   go_ret;exact ⟨⟨_,rfl⟩,((bR _ _).alloc (nR _) _).alloc (by simp) _⟩
 ·have z1:((ll:Int) != 0)=true:=by simp;omega
  have z2:(ll==0)=false:=by simp;omega
  go_enter Tryz.func64,Tryz.ntmps64;go_wp2
  all_goals
   go_ret;exact ⟨⟨_,rfl⟩,((bR _ _).alloc (nR _) _).alloc (by simp) _⟩
end
section
open Go.RowKit
section
variable {w:World} {lb lo cc:Nat} {ck dk:Option Addr} {lk cck ld cdk:Nat} {kl vl:Nat->Nat}
end
end
section
open Go.RowKit
def lvA:List UInt8:=putP (freshN 7)
def lvB:List UInt8:=putP (freePg 7 0)
def lv1:PT:=⟨[],7,1,3,0,0,[(1,lvA)],true⟩
def lv2:PT:=⟨[],7,1,3,0,0,[(1,lvA),(2,lvA)],true⟩
def lv3:PT:=⟨[],7,1,3,2,0,[(1,lvA),(2,lvB)],true⟩
def lv4:PT:=⟨[],7,1,3,0,0,[(1,lvA),(2,lvB)],true⟩
def lv5:PT:=⟨[],7,1,4,0,0,[(1,lvA),(2,lvB)],true⟩
theorem lv_put:layE lv1 leafX.n=0/\putT lv1 2 leafX.n=lv2:=by
 have h:layE lv1 leafX.n=0:=leaf_put 7;refine ⟨h,?_⟩;unfold putT;rw [show isPageT lv1 2=0 from rfl];unfold layT;rw [if_pos h];rfl
theorem lv_free:(freeT lv2 2).2=lv3:=by
 have h:layE lv2 (freeN lv2)=0:=freePg_put 7 0;unfold freeT;rw [show isPageT lv2 2=0 from rfl,if_neg (by simp),if_neg (by rw [h];simp)];unfold layT;rw [if_pos h];rfl
theorem lv2_ok:lv2.OK:=by
 refine ⟨by decide,by decide,by decide,fun x hx=>?_,?_⟩
 ·simp only [lv2,List.mem_cons,List.not_mem_nil,or_false] at hx
  rcases hx with rfl | rfl <;> decide
 ·show [1,2].Nodup;decide
theorem lv5_ok:lv5.OK:=by
 refine ⟨by decide,by decide,by decide,fun x hx=>?_,?_⟩
 ·simp only [lv5,List.mem_cons,List.not_mem_nil,or_false] at hx
  rcases hx with rfl | rfl <;> decide
 ·show [1,2].Nodup;decide
structure LvAt (w W:World) (T M:Nat) (t:PT):Prop where
 tx:TX (fun k=>w.heap.size<=k) W T M t
 below:Below w.heap.size w W
 glob:GlobAt w
 pow:PowAt w
theorem pow_size {w:World} (h:PowAt w):1<w.heap.size:=by
 unfold PowAt at h
 rcases Nat.lt_or_ge 1 w.heap.size with h1 | h1
 ·exact h1
 ·rw [Array.getElem?_eq_none h1] at h;cases h
theorem LvAt.powW {w W:World} {T M:Nat} {t:PT} (h:LvAt w W T M t):PowAt W:=powBelow h.pow h.below
theorem LvAt.next {w W W':World} {T M:Nat} {t t':PT} (h:LvAt w W T M t) (hT:TX (moreX (fun k=>w.heap.size<=k) W) W' T M t') (hf:Fr (fun k=>w.heap.size<=k) W W'):LvAt w W' T M t' :=
 ⟨hT.mono fun k hk=>hk.elim id fun h2=>nT h.below.size h2,h.below.trans (hf.below (B:=w.heap.size) h.below.size fun k hk=>hk),h.glob,h.pow⟩
theorem lv_fresh (w:World) (hg:GlobAt w) (ht:PowAt w):Calls Tryz.prog 12 #[.int .u64 7] w fun e w'=>∃ T M,e=.returned (.pointer (some ⟨T,0,none⟩))/\LvAt w w' T M (freshT 7) :=
 (Fresh_any 7 (by decide) w).mono fun e w' ⟨T,M,he,h1,h2⟩=>⟨T,M,he,h1,h2,hg,ht⟩
theorem lv_alloc1 {w W:World} {T M:Nat} (h:LvAt w W T M (freshT 7)):Calls Tryz.prog 17 #[.pointer (some ⟨T,0,none⟩)] W fun e w'=>e=.returned (.tuple #[.int .u32 2,.nilIface])/\LvAt w w' T M lv1 :=
 (Alloc_new h.tx rfl (by decide)).mono fun e w' ⟨he,hT,hf⟩=>⟨he,h.next (hT.mono fun k hk=>.inl hk) hf⟩
theorem lv_put2 {w W:World} {T M:Nat} (h:LvAt w W T M lv1):Calls Tryz.prog 19 #[.pointer (some ⟨T,0,none⟩),.int .u32 2,leafX.val] W fun e w'=>e=.returned .nilIface/\LvAt w w' T M lv2:=by
 have:=Put_ok h.tx 2 (by decide) leafX (flat_at rfl rfl) ⟨(by decide:7<18446744073709551616),(by decide:0<4294967296),(by decide:0<4294967296),(by decide:0<4294967296),(by decide:0<4294967296),(by decide:0<18446744073709551616),fun c hc=>(by cases hc)⟩ rfl lv_put.1 h.powW (fun h1=>by have:=pow_size h.pow;omega);rw [lv_put.2] at this
 exact this.mono fun e w' ⟨he,hT,hf⟩=>⟨he,h.next hT hf⟩
theorem lv_free2 {w W:World} {T M:Nat} (h:LvAt w W T M lv2):Calls Tryz.prog 20 #[.pointer (some ⟨T,0,none⟩),.int .u32 2] W fun e w'=>e=.returned .nilIface/\LvAt w w' T M lv3:=by
 have:=Free_ok h.tx lv2_ok 2 (by decide) rfl h.powW (fun h1=>by have:=pow_size h.pow;omega);rw [lv_free] at this
 exact this.mono fun e w' ⟨he,hT,hf⟩=>⟨he,h.next hT hf⟩
theorem lv_alloc2 {w W:World} {T M:Nat} (h:LvAt w W T M lv3):Calls Tryz.prog 17 #[.pointer (some ⟨T,0,none⟩)] W fun e w'=>e=.returned (.tuple #[.int .u32 2,.nilIface])/\LvAt w w' T M lv4:=by
 have hg:=(get_putND (freePg_put 7 0) (freePg_fit (by decide) (by decide))).1
 exact (Alloc_reuse (t:=lv3) h.tx (by decide) lvB (by decide) rfl (ReadC_free (by decide)) hg rfl (by decide)).mono fun e w' ⟨he,hT,hf⟩=>⟨he,h.next hT hf⟩
theorem lv_alloc3 {w W:World} {T M:Nat} (h:LvAt w W T M lv4):Calls Tryz.prog 17 #[.pointer (some ⟨T,0,none⟩)] W fun e w'=>e=.returned (.tuple #[.int .u32 3,.nilIface])/\LvAt w w' T M lv5 :=
 (Alloc_new (t:=lv4) h.tx rfl (by decide)).mono fun e w' ⟨he,hT,hf⟩=>⟨he,h.next (hT.mono fun k hk=>.inl hk) hf⟩
theorem lv_page {w W:World} {T M:Nat} (h:LvAt w W T M lv5):Calls Tryz.prog 26 #[.pointer (some ⟨T,0,none⟩),.int .u32 9] W fun e w'=>∃ v,e=.returned (.tuple #[.slice none 0 0,v])/\LvAt w w' T M lv5 /\
 Calls Tryz.prog 35 #[v,.iface 80 (.int .i64 7)] w' fun e w2=>e=.returned (.bool true)/\LvAt w w2 T M lv5:=by
 refine (Page_none h.tx 9 (by decide) (by decide) h.powW).mono ?_;rintro e w' ⟨v,he,hv,hb⟩;have hbw:Below w.heap.size w w':=h.below.trans (hb.mono h.below.size);have hg:GlobAt w':=(hbw.cell (p:=⟨0,0,none⟩) (by have:=pow_size h.pow;show 0<_;omega)).trans h.glob
 have hL:LvAt w w' T M lv5:=⟨h.tx.keep (KeepX.of_below hb),hbw,h.glob,h.pow⟩
 refine ⟨v,he,hL,?_⟩;refine (is_none hg hL.powW hv (by have:=pow_size h.powW;omega)).mono ?_;rintro e2 w2 ⟨he2,hf⟩;have hT:=h.tx.cut.keep (KeepX.of_below hb);have hT2:=hT.keep (w':=w2) ⟨hf.size,fun k hk hl=>hf.block k hl (fun h2=>by have:=hk.2;omega)⟩;exact ⟨he2,hT2.mono fun k hk=>hk.1,hbw.trans (hf.below (B:=w.heap.size) hbw.size fun k hk=>nT h.below.size hk),h.glob,h.pow⟩
theorem lv_changes {w W:World} {T M:Nat} (h:LvAt w W T M lv5):Calls Tryz.prog 24 #[.pointer (some ⟨T,0,none⟩)] W fun e w'=>∃ A c,e=.returned (.slice A 3 c)/\Below w.heap.size w w':=by
 refine (Changes_any h.tx lv5_ok rfl (by decide)).mono ?_;rintro e w' ⟨I,A,c,he,_,hI,hb⟩
 have hl:I.length=3:=by
  have:=congrArg List.length hI;rw [List.length_map] at this;rw [this];unfold changesT;rw [if_pos (show lv5.changed=true from rfl),List.length_cons,(sortO_perm _).length_eq];rfl
 rw [hl] at he;exact ⟨A,c,he,h.below.trans (hb.mono h.below.size)⟩
theorem live_any (w:World) (hg:GlobAt w) (ht:PowAt w):Calls Tryz.prog 18 #[] w fun e w'=>e=.returned (.bool true)/\Below w.heap.size w w':=by
 have h0:=lv_fresh w hg ht;have hP:=fun W T M h=>@lv_put2 w W T M h;unfold leafX NX.val nodeV at hP;dsimp only [List.length_nil] at hP;simp only [Int.natCast_zero] at hP;have HP:=lH hP;clear hP;go_enter Tryz.func18,Tryz.ntmps18
 go_wp2_with (first
  | (go_at_call 12;refine h0.mono ?_;rintro e w1 ⟨T,M,rfl,h1⟩)
  | (go_at_call 17;refine (lv_alloc1 h1).mono ?_;rintro e w2 ⟨rfl,h2⟩;clear h1)
  | (go_at_call 19;refine (HP.out _ _ _ h2).mono ?_;rintro e w3 ⟨rfl,h3⟩;clear h2)
  | (go_at_call 20;refine (lv_free2 h3).mono ?_;rintro e w4 ⟨rfl,h4⟩;clear h3)
  | (go_at_call 17;refine (lv_alloc2 h4).mono ?_;rintro e w5 ⟨rfl,h5⟩;clear h4)
  | (go_at_call 17;refine (lv_alloc3 h5).mono ?_;rintro e w6 ⟨rfl,h6⟩;clear h5)
  | (go_at_call 26;refine (lv_page h6).mono ?_;rintro e w7 ⟨v,rfl,h7,hIs⟩;clear h6)
  | (go_at_call 35;refine hIs.mono ?_;rintro e w8 ⟨rfl,h8⟩;clear h7)
  | (go_at_call 24;refine (lv_changes h8).mono ?_;rintro e w9 ⟨A,c,rfl,hb⟩;clear h8))
 go_ret;exact ⟨rfl,hb⟩
end
section
open Go.RowKit
open Ev (ev AS AObj SpF VRel LRel Hands hBase globT Fact spDig spKnown noCnv)
namespace Mj
def tk (k:Nat):Value:=.chan (some k)
def i64 (n:Int):Value:=.int .i64 n
def no (_:Nat):Bool:=false
noncomputable def spSm (b:Bool):SpF
 | [.slice none 0 0,.slice (some p) 1 _],s=>match Ev.readN s p 12 with
  | some [_,_,_,_,_,.chan (some 5),_,.chan (some 7),_,_,_,_]=>some (.bool b,s)
  | _=>none
 | _,_=>none
noncomputable def ext (b:Bool):List (FuncId × SpF):=[(21,spSm b),(18,spKnown (.bool true)),(54,spDig 1 12),(55,spDig 1 12)]
def deed:List Value:=[.agg #[tk 0,tk 1,tk 2,tk 3,tk 4,tk 5,tk 6,tk 7,tk 8,tk 9,tk 10,tk 11]]
noncomputable def Cn (f:Nat->Option (Array Value)) (b:Bool) (fs:List Fact):Ev.Ctx:=Ev.CXf f (ext b) fs [] noCnv no
def fK (a b c d e:Bool):List Fact:=[⟨.eql,tk 0,i64 0,.bool a⟩,⟨.eql,tk 0,i64 1,.bool b⟩,⟨.eql,tk 0,i64 2,.bool c⟩,⟨.eql,tk 0,i64 3,.bool d⟩,⟨.eql,tk 0,i64 4,.bool e⟩,⟨.neq,tk 12,tk 12,.bool false⟩]
variable (f:Nat->Option (Array Value))
theorem r0:isTr ((ev (Cn f true (fK true false false false false)) 10000).f 7 deed ⟨0,.leaf⟩)=true:=by kernel_rfl
theorem r1:isTr ((ev (Cn f true (fK false true false false false)) 10000).f 7 deed ⟨0,.leaf⟩)=true:=by kernel_rfl
theorem r2:isTr ((ev (Cn f true (fK false false true false false)) 10000).f 7 deed ⟨0,.leaf⟩)=true:=by kernel_rfl
theorem r3:isTr ((ev (Cn f true (fK false false false true false)) 10000).f 7 deed ⟨0,.leaf⟩)=true:=by kernel_rfl
theorem r4:isTr ((ev (Cn f true (fK false false false false true)) 10000).f 7 deed ⟨0,.leaf⟩)=true:=by kernel_rfl
theorem r5:isTr ((ev (Cn f true (fK false false false false false)) 10000).f 7 deed ⟨0,.leaf⟩)=true:=by kernel_rfl
end Mj
open Mj
section
variable {v:Nat->Value} {n:Nat}
end
end
section
open Go.RowKit
open Ev (ev AS AObj SpF VRel LRel Hands hBase globT Fact spDig spKnown noCnv)
open Mj
theorem pdigits_any (n:Nat) (hn:n<4294967296) (w:World) (htab:PowAt w):Calls Tryz.prog 55 #[.int .u32 (n:Nat)] w fun e w'=>e=.returned (.string ⟨(Lib.decDigits n).toArray⟩)/\Below w.heap.size w w':=by
 have hwu:IntKind.u64.wrap (n:Int)=(n:Int):=by rw [IntKind.wrap_u64];omega
 have hF:=fmtUint n (by omega) w htab;clear htab;go_enter Tryz.func55,Tryz.ntmps55
 go_wp2_with (go_at_call 85;refine hF.mono ?_;rintro e w2 ⟨rfl,hb⟩)
 go_ret;exact ⟨rfl,hb⟩
section
variable {v:Nat->Value} {n:Nat}
end
end
section
open Go.ChangeShapes Go.WideShapes Go.ChangeAt Go.RowKit Go.Joins Go.Deep
section
variable {H:Type} {enc:TypeId × Value->H} {w:World} {base:Nat} {held:Bool}
def toB (z:Int):UInt8:=UInt8.ofNat z.toNat
theorem toB_nat {z:Int} (h:(Lit.int .u8 z).wf=true):((toB z).toNat:Int)=z:=by
 have e1:IntKind.u8.min=0:=rfl;have e2:IntKind.u8.max=255:=rfl;simp [Lit.wf] at h;unfold toB
 have h8:(UInt8.ofNat z.toNat).toNat=z.toNat % 256:=by simp
 rw [h8];omega
theorem pt_of {fuel:Nat} {v:Value} {y:DataW H × List MemPlace} (h:DataW.trod enc Tryz.prog w base (fun _=>true) held fuel 23 [v]=some y):∃ p:Pt,v=p.val/\Reads w w.heap.size 1 p.A p.b.length (bl p.b)/\p.b.length<=p.c:=by
 rcases open_ints Tryz.underlying23 Tryz.underlying5 (by kernel_rfl) h with ⟨hcs,_⟩ | ⟨a,l,c,zs,hcs,_,hl,hm,hz,_,hcell,hwz⟩
 ·simp at hcs;exact ⟨⟨none,0,[]⟩,hcs,Reads.none_,zL _⟩
 ·simp at hcs hz
  have hlt:((zs.take l).map toB).length=l:=by rw [List.length_map,lK];omega
  refine ⟨⟨some a,c,(zs.take l).map toB⟩,by unfold Pt.val;rw [hcs];simp only;rw [hlt],⟨by rw [bl_len,Nat.mul_one],fun h0=>?_⟩,by show ((zs.take l).map toB).length<=c;omega⟩;have h0:0<((zs.take l).map toB).length:=h0;rw [hlt] at h0;have c0:=hcell 0 (by omega);have hb:=World.block_lt_of_cell? w _ c0;refine ⟨a,rfl,by simpa [Addr.add] using hb,fun j u hu=>?_⟩;unfold bl at hu;simp only [List.getElem?_map,List.getElem?_take] at hu;by_cases hj:j<l
  ·rw [if_pos hj] at hu;rw [hcell j (by omega)]
   cases hzj:zs[j]? with
   | none=>rw [hzj] at hu;cases hu
   | some z =>
    rw [hzj] at hu;simp only [Option.map_some,Option.some.injEq] at hu;rw [<-hu,toB_nat (hwz z (mG hzj))];simp [List.getD_eq_getElem?_getD,hzj]
  ·rw [if_neg hj] at hu;cases hu
end
end
section
open Go.ChangeShapes Go.WideShapes Go.ChangeAt Go.RowKit Go.Joins Go.Deep
theorem list_of {α:Type} {P:Nat->α->Prop}:∀ (n:Nat),(∀ i,i<n->∃ d,P i d)->∃ ds:List α,ds.length=n/\∀ (i:Nat) (d:α),ds[i]?=some d->P i d
 | 0,_=>⟨[],rfl,fun i d h=>by simp at h⟩
 | n+1,h=>by
  obtain ⟨ds,hl,hd⟩:=list_of n (fun i hi=>h i (by omega));obtain ⟨d,hP⟩:=h n (by omega);refine ⟨ds++[d],by simp [hl],fun i x hx=>?_⟩;by_cases hi:i<ds.length
  ·rw [List.getElem?_append_left hi] at hx;exact hd i x hx
  ·rw [List.getElem?_append_right (by omega)] at hx;have:=(lS.1 hx).1;simp at this
   obtain rfl:i=n:=by omega
   rw [hl,Nat.sub_self] at hx
   cases hx
   exact hP
section
variable {H:Type} {enc:TypeId × Value->H} {w:World} {base:Nat} {held:Bool}
theorem u32_in {fuel:Nat} {v:Value} {y:DataW H × List MemPlace} (h:DataW.trod enc Tryz.prog w base (fun _=>true) held fuel 22 [v]=some y):∃ n:Nat,v=.int .u32 (n:Nat)/\n<4294967296:=by
 obtain ⟨z,hc,_,wf⟩:=DataW.trod_int Tryz.underlying22 h;simp only [List.cons.injEq,and_true] at hc;have e1:IntKind.u32.min=0:=rfl;have e2:IntKind.u32.max=4294967295:=rfl;simp [Lit.wf] at wf;exact ⟨z.toNat,by rw [hc];congr 1;omega,by omega⟩
theorem u64_in {fuel:Nat} {v:Value} {y:DataW H × List MemPlace} (h:DataW.trod enc Tryz.prog w base (fun _=>true) held fuel 34 [v]=some y):∃ n:Nat,v=.int .u64 (n:Nat)/\n<18446744073709551616:=by
 obtain ⟨z,hc,_,wf⟩:=DataW.trod_int Tryz.underlying34 h;simp only [List.cons.injEq,and_true] at hc;have e1:IntKind.u64.min=0:=rfl;have e2:IntKind.u64.max=18446744073709551615:=rfl;simp [Lit.wf] at wf;exact ⟨z.toNat,by rw [hc];congr 1;omega,by omega⟩
theorem int_in {fuel:Nat} {v:Value} {y:DataW H × List MemPlace} (h:DataW.trod enc Tryz.prog w base (fun _=>true) held fuel 3 [v]=some y):∃ z:Int,v=.int .i64 z/\-9223372036854775808<=z/\z<=9223372036854775807:=by
 obtain ⟨z,hc,_,wf⟩:=DataW.trod_int Tryz.underlying3 h;simp only [List.cons.injEq,and_true] at hc;have e1:IntKind.i64.min=-9223372036854775808:=rfl;have e2:IntKind.i64.max=9223372036854775807:=rfl;simp [Lit.wf] at wf;exact ⟨z,hc,by omega,by omega⟩
theorem bytes_in {fuel:Nat} {v:Value} {y:DataW H × List MemPlace} (h:DataW.trod enc Tryz.prog w base (fun _=>true) held fuel 23 [v]=some y):∃ p:Pt,v=p.val/\Reads w w.heap.size 1 p.A p.b.length (bl p.b)/\p.b.length<=p.c/\p.b.length<=9223372036854775807:=by
 obtain ⟨p,hp,h1,h2⟩:=pt_of h;refine ⟨p,hp,h1,h2,?_⟩
 rcases open_slice Tryz.underlying23 h with ⟨h0,_⟩ | ⟨a,len,cap,m,n,D,Pl,hcs,hb,hl,hm,_⟩
 ·simp only [List.cons.injEq,and_true] at h0;rw [hp] at h0;have h0':Value.slice p.A p.b.length p.c=.slice none 0 0:=h0;simp only [Value.slice.injEq] at h0';omega
 ·simp only [List.cons.injEq,and_true] at hcs;rw [hp] at hcs;have h0':Value.slice p.A p.b.length p.c=.slice (some a) len cap:=hcs;simp only [Value.slice.injEq] at h0';simp only [maxLen] at hm;omega
theorem fld1 {fs:Array Field} {n:Nat} {cs:List Value} {xs:List (DataW H × List MemPlace)} (hg:∀ (i:Nat) (f:Field),fs[i]?=some f->DataW.trod enc Tryz.prog w base (fun _=>true) held n f.type ((cs.drop f.offset).take (Tryz.prog.cellsOf f.type))=xs[i]?) (hxl:xs.length=fs.size)
 (i:Nat) {f:Field} (hi:fs[i]?=some f) (hk:Tryz.prog.cellsOf f.type=1) (v:Value) (hv:cs[f.offset]?=some v):∃ y,DataW.trod enc Tryz.prog w base (fun _=>true) held n f.type [v]=some y:=by
 have h1:=hg i f hi
 have hl:=(lS.1 hv)
 rw [hk,List.drop_eq_getElem_cons hl.1,hl.2] at h1;have hi2:=(aS.1 hi).1;rw [gE (by omega)] at h1;exact ⟨_,h1⟩
def CellIn (w:World) (c:CX):Prop:=Reads w w.heap.size 1 c.ka c.c.key.length (bl c.c.key)/\Reads w w.heap.size 1 c.va c.c.val.length (bl c.c.val)/\c.c.key.length<=9223372036854775807/\c.c.val.length<=9223372036854775807/\c.c.fit
theorem cell_in {fuel:Nat} {cs:List Value} {x:DataW H × List MemPlace} (h:DataW.trod enc Tryz.prog w base (fun _=>true) held fuel 113 cs=some x):∃ c:CX,cs=c.cells/\CellIn w c:=by
 obtain ⟨xs,n,_,_,hlen,hxl,hg⟩:=DataW.trod_struct Tryz.underlying113 h;have hlen:cs.length=5:=hlen.trans (by kernel_rfl)
 match cs,hlen with
 | [c0,c1,c2,c3,c4],_ =>
  obtain ⟨_,t0⟩:=fld1 hg hxl 0 rfl (by kernel_rfl) c0 rfl;obtain ⟨_,t1⟩:=fld1 hg hxl 1 rfl (by kernel_rfl) c1 rfl;obtain ⟨_,t2⟩:=fld1 hg hxl 2 rfl (by kernel_rfl) c2 rfl;obtain ⟨_,t3⟩:=fld1 hg hxl 3 rfl (by kernel_rfl) c3 rfl;obtain ⟨_,t4⟩:=fld1 hg hxl 4 rfl (by kernel_rfl) c4 rfl;obtain ⟨k,rfl,k1,_,k2⟩:=bytes_in t0;obtain ⟨z,rfl,_⟩:=int_in t1;obtain ⟨v,rfl,v1,_,v2⟩:=bytes_in t2;obtain ⟨a,rfl,a1⟩:=u32_in t3;obtain ⟨b,rfl,b1⟩:=u32_in t4;exact ⟨⟨k.A,k.c,v.A,v.c,⟨k.b,z,v.b,a,b⟩⟩,rfl,k1,v1,k2,v2,a1,b1⟩
theorem cells_in {fuel:Nat} {v:Value} {y:DataW H × List MemPlace} (h:DataW.trod enc Tryz.prog w base (fun _=>true) held fuel 50 [v]=some y) :
 ∃ (A:Option Addr) (c:Nat) (l:List CX),v=.slice A l.length c/\CellsAt w w.heap.size A l/\(∀ x∈l,CellIn w x)/\l.length<=9223372036854775807:=by
 rcases open_slice Tryz.underlying50 h with ⟨hcs,_⟩ | ⟨a,len,cap,m,n,D,Pl,hcs,_,hl,hm,hmm,_,hf⟩
 ·simp only [List.cons.injEq,and_true] at hcs;exact ⟨none,0,[],hcs,⟨.inl rfl,fun x hx=>(by cases hx),fun x hx=>(by cases hx)⟩,fun x hx=>(by cases hx),zL _⟩
 ·simp only [List.cons.injEq,and_true] at hcs;simp only [if_true] at hmm;subst hmm
  have hce:Program.cellsOf Tryz.prog 113=5:=by kernel_rfl
  obtain ⟨ds,hdl,hd⟩:=list_of (P:=fun i (x:CX)=>(∀ j u,x.cells[j]?=some u->w.cell? ((a.add (i*5)).add j)=some u)/\CellIn w x) len (fun i hi=>by
   obtain ⟨cs',hc,ht⟩:=hf i (by omega);rw [hce] at hc;obtain ⟨_,hcl,hat⟩:=World.cells?_some hc;obtain ⟨x,rfl,hx⟩:=cell_in ht;refine ⟨x,fun j u hu=>?_,hx⟩;have hj:=(lS.1 hu).1;have h5:x.cells.length=5:=rfl;rw [hat j (by omega)]
   exact hu)
  have hin:∀ x∈ds,CellIn w x:=fun x hx=>by
   obtain ⟨i,hi⟩:=List.getElem?_of_mem hx;exact (hd i x hi).2
  refine ⟨some a,_,ds,by rw [hcs,hdl],⟨?_,fun x hx=>(hin x hx).1,fun x hx=>(hin x hx).2.1⟩,hin,by rw [hdl];simp only [maxLen] at hm;omega⟩
  cases hds:ds with
  | nil=>exact .inl rfl
  | cons x0 r =>
   right;rw [<-hds]
   have hx0:ds[0]?=some x0:=by rw [hds];rfl
   have c0:=(hd 0 x0 hx0).1 0 _ rfl
   have e0:(a.add (0*5)).add 0=a:=by simp [Addr.add]
   rw [e0] at c0;have hsp:=World.cell?_spot c0;have hbl:=World.block_lt_of_cell? w _ c0;obtain ⟨g,o,sp⟩:=a;have hsp:sp=none:=hsp;subst hsp;refine ⟨g,o,rfl,hbl,fun k x hx j u hu=>?_⟩;have:=(hd k x hx).1 j u hu
   have e1:((⟨g,o,none⟩:Addr).add (k*5)).add j=⟨g,o+k*5+j,none⟩:=by
    unfold Addr.add
    split <;> split <;> simp_all
   rw [e1] at this;exact this
structure NodeIn (w:World) (x:NX):Prop where
 cells:CellsAt w w.heap.size x.ca x.l
 data:Reads w w.heap.size 1 x.da x.data.length (bl x.data)
 each:∀ y∈x.l,CellIn w y
 many:x.l.length<=9223372036854775807
 long:x.data.length<=9223372036854775807
 kind:-9223372036854775808<=x.kind/\x.kind<=9223372036854775807
 lsn:x.lsn<18446744073709551616
 next:x.next<4294967296
 head:x.root<4294967296/\x.pages<4294967296/\x.free<4294967296/\x.entries<18446744073709551616
theorem node_in {fuel:Nat} {cs:List Value} {x:DataW H × List MemPlace} (h:DataW.trod enc Tryz.prog w base (fun _=>true) held fuel 52 cs=some x):∃ y:NX,cs=y.cells.toList/\NodeIn w y:=by
 obtain ⟨xs,n,_,_,hlen,hxl,hg⟩:=DataW.trod_struct Tryz.underlying52 h;have hlen:cs.length=9:=hlen.trans (by kernel_rfl)
 match cs,hlen with
 | [c0,c1,c2,c3,c4,c5,c6,c7,c8],_ =>
  obtain ⟨_,t0⟩:=fld1 hg hxl 0 rfl (by kernel_rfl) c0 rfl;obtain ⟨_,t1⟩:=fld1 hg hxl 1 rfl (by kernel_rfl) c1 rfl;obtain ⟨_,t2⟩:=fld1 hg hxl 2 rfl (by kernel_rfl) c2 rfl;obtain ⟨_,t3⟩:=fld1 hg hxl 3 rfl (by kernel_rfl) c3 rfl;obtain ⟨_,t4⟩:=fld1 hg hxl 4 rfl (by kernel_rfl) c4 rfl;have h5:=hg 5 _ rfl;have h5:DataW.trod enc Tryz.prog w base (fun _=>true) held n 43 (([c0,c1,c2,c3,c4,c5,c6,c7,c8].drop 5).take (Tryz.prog.cellsOf 43))=xs[5]?:=h5;rw [show Tryz.prog.cellsOf 43=4 by kernel_rfl] at h5
  have hx6:5<xs.length:=by rw [hxl];decide
  rw [gE hx6] at h5;have h5:DataW.trod enc Tryz.prog w base (fun _=>true) held n 43 [c5,c6,c7,c8]=some _:=h5;obtain ⟨xs2,n2,_,_,_,hxl2,hg2⟩:=DataW.trod_struct Tryz.underlying43 h5;obtain ⟨_,t5⟩:=fld1 hg2 hxl2 0 rfl (by kernel_rfl) c5 rfl;obtain ⟨_,t6⟩:=fld1 hg2 hxl2 1 rfl (by kernel_rfl) c6 rfl;obtain ⟨_,t7⟩:=fld1 hg2 hxl2 2 rfl (by kernel_rfl) c7 rfl;obtain ⟨_,t8⟩:=fld1 hg2 hxl2 3 rfl (by kernel_rfl) c8 rfl;obtain ⟨kd,rfl,k1⟩:=int_in t0;obtain ⟨ls,rfl,l1⟩:=u64_in t1;obtain ⟨A,c,l,rfl,a1,a2,a3⟩:=cells_in t2;obtain ⟨nx,rfl,n1⟩:=u32_in t3;obtain ⟨p,rfl,p1,_,p2⟩:=bytes_in t4;obtain ⟨r5,rfl,r51⟩:=u32_in t5;obtain ⟨r6,rfl,r61⟩:=u32_in t6;obtain ⟨r7,rfl,r71⟩:=u32_in t7;obtain ⟨r8,rfl,r81⟩:=u64_in t8;exact ⟨⟨kd,ls,A,c,l,nx,p.A,p.c,p.b,r5,r6,r7,r8⟩,rfl,a1,p1,a2,a3,p2,k1,l1,n1,r51,r61,r71,r81⟩
theorem deed_in {fuel:Nat} {cs:List Value} {x:DataW H × List MemPlace} (h:DataW.trod enc Tryz.prog w base (fun _=>true) held fuel 59 cs=some x) :
 ∃ (kd:Int) (n:Nat) (by_:Int) (y:NX),cs=.int .i64 kd :: .int .u32 (n:Nat) :: .int .i64 by_::y.cells.toList/\NodeIn w y/\n<4294967296/\(-9223372036854775808<=kd/\kd<=9223372036854775807)/\(-9223372036854775808<=by_/\by_<=9223372036854775807):=by
 obtain ⟨xs,n,_,_,hlen,hxl,hg⟩:=DataW.trod_struct Tryz.underlying59 h;have hlen:cs.length=12:=hlen.trans (by kernel_rfl)
 match cs,hlen with
 | [c0,c1,c2,d0,d1,d2,d3,d4,d5,d6,d7,d8],_ =>
  obtain ⟨_,t0⟩:=fld1 hg hxl 0 rfl (by kernel_rfl) c0 rfl;obtain ⟨_,t1⟩:=fld1 hg hxl 1 rfl (by kernel_rfl) c1 rfl;obtain ⟨_,t2⟩:=fld1 hg hxl 2 rfl (by kernel_rfl) c2 rfl;have h3:=hg 3 _ rfl;have h3:DataW.trod enc Tryz.prog w base (fun _=>true) held n 52 (([c0,c1,c2,d0,d1,d2,d3,d4,d5,d6,d7,d8].drop 3).take (Tryz.prog.cellsOf 52))=xs[3]?:=h3;rw [show Tryz.prog.cellsOf 52=9 by kernel_rfl] at h3
  have hx3:3<xs.length:=by rw [hxl];decide
  rw [gE hx3] at h3;have h3:DataW.trod enc Tryz.prog w base (fun _=>true) held n 52 [d0,d1,d2,d3,d4,d5,d6,d7,d8]=some _:=h3;obtain ⟨y,hy,hin⟩:=node_in h3;obtain ⟨kd,rfl,k1⟩:=int_in t0;obtain ⟨nn,rfl,n1⟩:=u32_in t1;obtain ⟨b,rfl,b1⟩:=int_in t2;exact ⟨kd,nn,b,y,by rw [hy],hin,n1,k1,b1⟩
end
end
section
open Go.ChangeShapes Go.WideShapes Go.ChangeAt Go.RowKit Go.Joins Go.Deep
section
variable {H:Type} {enc:TypeId × Value->H} {w:World} {base:Nat} {held:Bool}
end
end
section
open Go.RowKit
structure DX where
 kd:Int
 n:Nat
 b:Int
 y:NX
def DX.arr (d:DX):Array Value:=#[.int .i64 d.kd,.int .u32 (d.n:Nat),.int .i64 d.b,.int .i64 d.y.kind,.int .u64 (d.y.lsn:Nat),.slice d.y.ca d.y.l.length d.y.cc,.int .u32 (d.y.next:Nat),.slice d.y.da d.y.data.length d.y.dc,.int .u32 (d.y.root:Nat),.int .u32 (d.y.pages:Nat),.int .u32 (d.y.free:Nat),.int .u64 (d.y.entries:Nat)]
def DX.val (d:DX):Value:=.agg d.arr
def doT (t:PT) (d:DX):PT:=if d.kd=0 then putT t d.n d.y.n else if d.kd=1 then (allocT t).2.2 else if d.kd=2 then (freeT t d.n).2 else if d.kd=3 then (rootT t d.n).2 else if d.kd=4 then (countT t d.b).2 else t
structure DeedOK (w:World) (d:DX):Prop where
 at_:NodeAt w w.heap.size d.y
 fit:d.y.n.Fit
 n:d.n<4294967296
 b:-9223372036854775808<=d.b/\d.b<=9223372036854775807
def DoR (X:Nat->Prop) (w:World) (T M:Nat) (t':PT) (e:Ending) (w':World):Prop:=(∃ q,e=.returned (.bool q))/\TX (moreX X w) w' T M t'/\Fr (TM T M) w w'
theorem Fr.late {X Y:Nat->Prop} {a b c:World} (h:Fr X a b) (k:Fr Y b c) (hY:∀ j,j<a.heap.size->Y j->X j):Fr X a c :=
 ⟨k.os.trans h.os,k.tape.trans h.tape,k.output.trans h.output,nT h.size k.size,fun i hi hx=>(k.block i (lT hi h.size) (fun hy=>hx (hY i hi hy))).trans (h.block i hi hx)⟩
theorem globFr {X:Nat->Prop} {w w1:World} (h:GlobAt w) (hf:Fr X w w1) (hX:¬ X 0):GlobAt w1:=by
 unfold GlobAt at h ⊢;rw [<-h];exact World.cell?_of_block (w:=w) (hf.block 0 (World.block_lt_of_cell? w _ h) hX)
theorem keepLt {X Y:Nat->Prop} {w w1:World} {B:Nat} (hf:Fr Y w w1) (hY:∀ k,Y k->B<=k):KeepX (fun k=>X k/\k<B) w w1:=⟨hf.size,fun k hk hl=>hf.block k hl (fun hy=>by have:=hY k hy;omega)⟩
theorem layE_in (t:PT) (x:PN):layE t x=0\/layE t x=60\/layE t x=80:=by
 unfold layE putE
 split
 ·exact .inr (.inr rfl)
 ·split
  ·exact .inr (.inl rfl)
  ·exact .inl rfl
theorem bnd {k:Int} (h:k=0\/k=2\/k=7\/k=50\/k=51\/k=60\/k=80\/k=90):0<=k/\k<4611686018427387904:=by omega
theorem layE_bnd (t:PT) (x:PN):0<=layE t x/\layE t x<4611686018427387904:=bnd (by have:=layE_in t x;omega)
theorem putE_in (t:PT) (n:Nat) (x:PN):0<=putE' t n x/\putE' t n x<4611686018427387904:=by
 unfold putE'
 split
 ·exact bnd (.inr (.inl rfl))
 ·exact layE_bnd t x
theorem freeE_in (t:PT) (n:Nat):0<=(freeT t n).1/\(freeT t n).1<4611686018427387904:=by
 unfold freeT
 split
 ·exact bnd (.inr (.inl rfl))
 ·split
  ·exact layE_bnd t (freeN t)
  ·exact bnd (.inl rfl)
theorem rootE_in (t:PT) (n:Nat):0<=(rootT t n).1/\(rootT t n).1<4611686018427387904:=by
 unfold rootT
 split
 ·exact bnd (.inr (.inl rfl))
 ·exact bnd (.inl rfl)
theorem countE_in (t:PT) (b:Int):0<=(countT t b).1/\(countT t b).1<4611686018427387904:=by
 unfold countT
 split
 ·exact bnd (.inr (.inl rfl))
 ·exact bnd (.inl rfl)
theorem allocE_in (t:PT):0<=(allocT t).1/\(allocT t).1<4611686018427387904:=by
 unfold allocT
 split
 ·cases hk:nodeT t t.free with
  | error k =>
   have:=nodeT_err hk;exact bnd (k:=k) (by omega)
  | ok x =>
   simp only
   split
   ·exact bnd (k:=80) (by omega)
   ·exact bnd (k:=0) (by omega)
 ·split
  ·exact bnd (k:=90) (by omega)
  ·exact bnd (k:=0) (by omega)
theorem codeR_in (t:PT) (n:Nat):0<=codeR (nodeT t n)/\codeR (nodeT t n)<4611686018427387904:=by
 cases hk:nodeT t n with
 | error k =>
  have:=nodeT_err hk;exact bnd (k:=k) (by omega)
 | ok x=>exact bnd (k:=0) (by omega)
theorem fit_lsn {x:NX} {l:Nat} (hl:l<18446744073709551616) (h:x.n.Fit):(withL x l).n.Fit:=by
 obtain ⟨_,h2,h3,h4,h5,h6,h7⟩:=h;exact ⟨hl,h2,h3,h4,h5,h6,h7⟩
theorem do_0 {X:Nat->Prop} {w:World} {T M:Nat} {t:PT} (h:TX X w T M t) (ok:t.OK) (hX:∀ k,X k->2<=k/\k<w.heap.size) (d:DX) (hd:DeedOK w d) (hk:d.kd=0) (hg:GlobAt w) (ht:PowAt w) :
 Calls Tryz.prog 22 #[.pointer (some ⟨T,0,none⟩),.pointer none,d.val] w fun e w'=>DoR X w T M (putT t d.n d.y.n) e w':=by
 have hD:=fun W hW=>pdigits_any d.n hd.n W hW;have h1lt:=pow_lt ht;have hTM:∀ k,(k<2\/w.heap.size<=k)->¬ TM T M k:=fun k hk=>h.no (fun hx=>by have:=hX k hx;omega);obtain ⟨kd,n,b,y⟩:=d;simp only at hk;subst hk;have hdd:=lH hd;clear hd
 obtain ⟨w1,hw1⟩:∃ w1,w1=w.alloc (.cells (DX.mk 0 n b y).arr 59):=⟨_,rfl⟩
 have hb1:Below w.heap.size w w1:=by rw [hw1];exact (bR _ _).alloc (nR _) _
 have hK1:Blk w1 w.heap.size 59 (DX.mk 0 n b y).arr:=by rw [hw1];exact Blk.new _ _ _
 unfold DX.val;unfold DX.arr at *;have HW1:=lH hw1;clear hw1;have hD1:=hD w1 (powBelow ht hb1);go_enter Tryz.func22,Tryz.ntmps22
 go_wp2_with (first
  | (rw [<-HW1.out];go_at_call 55;refine hD1.mono ?_;rintro e w2 ⟨rfl,hb2⟩;have c0:w2.cell? ⟨w.heap.size,0,none⟩=some (.int .i64 0):=(hK1.below hb2 hK1.lt).cell 0))
 have hK2:=hK1.below hb2 hK1.lt;have hb12:=hb1.trans (hb2.mono hb1.size);have hbd:Below w.heap.size w w2.drew:=hb12.drew;have hT2:=h.keep (KeepX.of_below hbd);have hg2:=globBelow hg hbd;have ht2:=powBelow ht hbd;have hsz:w.heap.size<w2.heap.size:=hK2.lt;have hP:=Put_all hT2 n hdd.out.n y ((hdd.out.at_.below hbd).mono hbd.size) (fit_lsn ok.lsn hdd.out.fit) ht2 (fun hx=>by have:=(hX 1 hx).1;omega);unfold NX.val nodeV at hP;have hi:=putE_in t n y.n;refine regionE 15 (fun W0=>Blk W0 w.heap.size 59 #[.int .i64 0,.int .u32 (n:Nat),.int .i64 b,.int .i64 y.kind,.int .u64 (y.lsn:Nat),.slice y.ca y.l.length y.cc,.int .u32 (y.next:Nat),.slice y.da y.data.length y.dc,.int .u32 (y.root:Nat),.int .u32 (y.pages:Nat),.int .u32 (y.free:Nat),.int .u64 (y.entries:Nat)]) (by kernel_rfl) (by kernel_rfl) (by kernel_rfl) (by kernel_rfl) (by kernel_rfl) (hK2) (fun hHeld hTl=>?_);refine tkT 0 (v:=?_) hTl hHeld rfl ?_ (fun hTl=>?_);rotate_left
 ·intro w hSw;(try dsimp only at hSw);go_simp;all_goals with_reducible rfl
 try simp only [pT]
 refine tkT 1 (v:=?_) hTl hHeld rfl ?_ (fun hTl=>?_);rotate_left
 ·intro w hSw;(try dsimp only at hSw);go_simp;all_goals with_reducible rfl
 try simp only [pT]
 refine takeE 2 (v:=.int .u32 (n:Nat)) hTl rfl (by decide) (by kernel_rfl) (by kernel_rfl) (fun _ _ _ h=>h) hHeld (Or.inl ⟨by rfl,?_⟩) (fun hTl=>?_)
 ·intro W hSw;have hsw:Blk W w.heap.size 59 #[.int .i64 0,.int .u32 (n:Nat),.int .i64 b,.int .i64 y.kind,.int .u64 (y.lsn:Nat),.slice y.ca y.l.length y.cc,.int .u32 (y.next:Nat),.slice y.da y.data.length y.dc,.int .u32 (y.root:Nat),.int .u32 (y.pages:Nat),.int .u32 (y.free:Nat),.int .u64 (y.entries:Nat)]:=hSw;have c1:W.cell? ⟨w.heap.size,1,none⟩=some (.int .u32 (n:Nat)):=hsw.cell 1;go_simp
 try simp only [pT]
 refine tkT 3 (v:=?_) hTl hHeld rfl ?_ (fun hTl=>?_);rotate_left
 ·intro w hSw;(try dsimp only at hSw);go_simp;all_goals with_reducible rfl
 try simp only [pT]
 refine takeE 4 (v:=.agg #[.int .i64 y.kind,.int .u64 (y.lsn:Nat),.slice y.ca y.l.length y.cc,.int .u32 (y.next:Nat),.slice y.da y.data.length y.dc,.int .u32 (y.root:Nat),.int .u32 (y.pages:Nat),.int .u32 (y.free:Nat),.int .u64 (y.entries:Nat)]) hTl rfl (by decide) (by kernel_rfl) (by kernel_rfl) (fun _ _ _ h=>h) hHeld (Or.inl ⟨by rfl,?_⟩) (fun hTl=>?_)
 ·intro W hSw;have hsw:Blk W w.heap.size 59 #[.int .i64 0,.int .u32 (n:Nat),.int .i64 b,.int .i64 y.kind,.int .u64 (y.lsn:Nat),.slice y.ca y.l.length y.cc,.int .u32 (y.next:Nat),.slice y.da y.data.length y.dc,.int .u32 (y.root:Nat),.int .u32 (y.pages:Nat),.int .u32 (y.free:Nat),.int .u64 (y.entries:Nat)]:=hSw;have c3:W.cell? ⟨w.heap.size,3,none⟩=some (.int .i64 y.kind):=hsw.cell 3;have c4:W.cell? ⟨w.heap.size,4,none⟩=some (.int .u64 (y.lsn:Nat)):=hsw.cell 4;have c5:W.cell? ⟨w.heap.size,5,none⟩=some (.slice y.ca y.l.length y.cc):=hsw.cell 5;have c6:W.cell? ⟨w.heap.size,6,none⟩=some (.int .u32 (y.next:Nat)):=hsw.cell 6;have c7:W.cell? ⟨w.heap.size,7,none⟩=some (.slice y.da y.data.length y.dc):=hsw.cell 7;have c8:W.cell? ⟨w.heap.size,8,none⟩=some (.int .u32 (y.root:Nat)):=hsw.cell 8;have c9:W.cell? ⟨w.heap.size,9,none⟩=some (.int .u32 (y.pages:Nat)):=hsw.cell 9;have c10:W.cell? ⟨w.heap.size,10,none⟩=some (.int .u32 (y.free:Nat)):=hsw.cell 10;have c11:W.cell? ⟨w.heap.size,11,none⟩=some (.int .u64 (y.entries:Nat)):=hsw.cell 11;go_simp
 try simp only [pT]
 refine tkT 6 (v:=?_) hTl hHeld rfl ?_ (fun hTl=>?_);rotate_left
 ·intro w hSw;(try dsimp only at hSw);go_simp;all_goals with_reducible rfl
 try simp only [pT]
 refine tkT 8 (v:=?_) hTl hHeld rfl ?_ (fun hTl=>?_);rotate_left
 ·intro w hSw;(try dsimp only at hSw);go_simp;all_goals with_reducible rfl
 try simp only [pT]
 refine tkT 9 (v:=?_) hTl hHeld rfl ?_ (fun hTl=>?_);rotate_left
 ·intro w hSw;(try dsimp only at hSw);go_simp;all_goals with_reducible rfl
 try simp only [pT]
 refine takeE 10 (v:=.int .u32 (n:Nat)) hTl rfl (by decide) (by kernel_rfl) (by kernel_rfl) (fun _ _ _ h=>h) hHeld (Or.inl ⟨by rfl,?_⟩) (fun hTl=>?_)
 ·intro W hSw;have hsw:Blk W w.heap.size 59 #[.int .i64 0,.int .u32 (n:Nat),.int .i64 b,.int .i64 y.kind,.int .u64 (y.lsn:Nat),.slice y.ca y.l.length y.cc,.int .u32 (y.next:Nat),.slice y.da y.data.length y.dc,.int .u32 (y.root:Nat),.int .u32 (y.pages:Nat),.int .u32 (y.free:Nat),.int .u64 (y.entries:Nat)]:=hSw;have c1:W.cell? ⟨w.heap.size,1,none⟩=some (.int .u32 (n:Nat)):=hsw.cell 1;go_simp
 try simp only [pT]
 refine tkT 11 (v:=?_) hTl hHeld rfl ?_ (fun hTl=>?_);rotate_left
 ·intro w hSw;(try dsimp only at hSw);go_simp;all_goals with_reducible rfl
 try simp only [pT]
 refine takeE 12 (v:=.agg #[.int .i64 y.kind,.int .u64 (y.lsn:Nat),.slice y.ca y.l.length y.cc,.int .u32 (y.next:Nat),.slice y.da y.data.length y.dc,.int .u32 (y.root:Nat),.int .u32 (y.pages:Nat),.int .u32 (y.free:Nat),.int .u64 (y.entries:Nat)]) hTl rfl (by decide) (by kernel_rfl) (by kernel_rfl) (fun _ _ _ h=>h) hHeld (Or.inl ⟨by rfl,?_⟩) (fun hTl=>?_)
 ·intro W hSw;have hsw:Blk W w.heap.size 59 #[.int .i64 0,.int .u32 (n:Nat),.int .i64 b,.int .i64 y.kind,.int .u64 (y.lsn:Nat),.slice y.ca y.l.length y.cc,.int .u32 (y.next:Nat),.slice y.da y.data.length y.dc,.int .u32 (y.root:Nat),.int .u32 (y.pages:Nat),.int .u32 (y.free:Nat),.int .u64 (y.entries:Nat)]:=hSw;have c3:W.cell? ⟨w.heap.size,3,none⟩=some (.int .i64 y.kind):=hsw.cell 3;have c4:W.cell? ⟨w.heap.size,4,none⟩=some (.int .u64 (y.lsn:Nat)):=hsw.cell 4;have c5:W.cell? ⟨w.heap.size,5,none⟩=some (.slice y.ca y.l.length y.cc):=hsw.cell 5;have c6:W.cell? ⟨w.heap.size,6,none⟩=some (.int .u32 (y.next:Nat)):=hsw.cell 6;have c7:W.cell? ⟨w.heap.size,7,none⟩=some (.slice y.da y.data.length y.dc):=hsw.cell 7;have c8:W.cell? ⟨w.heap.size,8,none⟩=some (.int .u32 (y.root:Nat)):=hsw.cell 8;have c9:W.cell? ⟨w.heap.size,9,none⟩=some (.int .u32 (y.pages:Nat)):=hsw.cell 9;have c10:W.cell? ⟨w.heap.size,10,none⟩=some (.int .u32 (y.free:Nat)):=hsw.cell 10;have c11:W.cell? ⟨w.heap.size,11,none⟩=some (.int .u64 (y.entries:Nat)):=hsw.cell 11;go_simp
 try simp only [pT]
 have hTl2:=hTl.step 5 (by kernel_rfl) (by decide);clear hTl;refine oneE 5 rfl (by kernel_rfl) (fun K hK=>?_);refine sC rfl 19 _ (by go_simp) hP ?_
 rintro e w3 ⟨v,B,e3,hB,hv,hT3,hf3⟩;subst e3;refine ⟨_,rfl,?_⟩;have hB':w2.heap.size<=B:=hB;have hK3:=Blk.fr (show Blk w2.drew w.heap.size 59 _ from hK2) hf3 (hTM _ (by omega))
 refine hK.out _ _ (fun _=>hK3) ?_;clear hK K
 try simp only [pT]
 have hTl:=hTl2;clear hTl2;have hC:=ptold_any (B:=B) (globFr hg2 hf3 (hTM _ (by omega))) (powFr ht2 hf3 (hTM _ (by omega))) hv.w (by omega) hi;unfold sPut digB at hC;have hHeld:=hK3;have hTl2:=hTl.step 7 (by kernel_rfl) (by decide);clear hTl;refine oneE 7 rfl (by kernel_rfl) (fun K hK=>?_);refine sC rfl 27 _ (by go_simp) hC ?_
 rintro e w4 ⟨e4,hf4⟩;subst e4;refine ⟨_,rfl,?_⟩;have hK4:=Blk.fr hK3 hf4 (show ¬ B<=w.heap.size by omega)
 refine hK.out _ _ (fun _=>hK4) ?_;clear hK K
 try simp only [pT]
 have hTl:=hTl2;clear hTl2;have hR:=rPut_nil (.int .u32 (n:Nat)) y.val w4 y rfl;unfold NX.val nodeV at hR;have hHeld:=hK4;have hTl2:=hTl.step 13 (by kernel_rfl) (by decide);clear hTl;refine oneE 13 rfl (by kernel_rfl) (fun K hK=>?_);refine sC rfl 56 _ (by go_simp) hR ?_
 rintro e w5 ⟨e5,hb5⟩;subst e5;refine ⟨_,rfl,?_⟩;have hK5:=hK4.below hb5 hK4.lt
 refine hK.out _ _ (fun _=>hK5) ?_;clear hK K
 try simp only [pT]
 have hTl:=hTl2;clear hTl2;have hHeld:=hK5;refine tkT 14 (v:=?_) hTl hHeld rfl ?_ (fun hTl=>?_);rotate_left
 ·intro w hSw;(try dsimp only at hSw);go_simp;all_goals with_reducible rfl
 try simp only [pT]
 clear hTl;refine oneE 15 rfl (by kernel_rfl) (fun K hK=>?_);go_simp;refine hK.out _ _ (fun h=>absurd h (by decide)) ?_;clear hK K
 try simp only [pT]
 refine doneE (by kernel_rfl) ?_ _;go_wp2;go_ret;have hfr3:Fr (TM T M) w w3:=(Fr.of_below hbd).trans hf3;have hfr5:Fr (TM T M) w w5:=(hfr3.late hf4 (fun j hj hy=>by have hy:B<=j:=hy;omega)).trans (Fr.of_below hb5);exact ⟨⟨_,rfl⟩,((hT3.keep (keepLt hf4 (fun k hk=>hk))).keep (KeepX.of_below hb5)).mono fun k hk=>hk.1.imp id fun h=>nT hbd.size h,hfr5⟩
theorem do_2 {X:Nat->Prop} {w:World} {T M:Nat} {t:PT} (h:TX X w T M t) (ok:t.OK) (hX:∀ k,X k->2<=k/\k<w.heap.size) (d:DX) (hd:DeedOK w d) (hk:d.kd=2) (hg:GlobAt w) (ht:PowAt w) :
 Calls Tryz.prog 22 #[.pointer (some ⟨T,0,none⟩),.pointer none,d.val] w fun e w'=>DoR X w T M ((freeT t d.n).2) e w':=by
 have hD:=fun W hW=>pdigits_any d.n hd.n W hW;have h1lt:=pow_lt ht;have hTM:∀ k,(k<2\/w.heap.size<=k)->¬ TM T M k:=fun k hk=>h.no (fun hx=>by have:=hX k hx;omega);obtain ⟨kd,n,b,y⟩:=d;simp only at hk;subst hk;have hdd:=lH hd;clear hd
 obtain ⟨w1,hw1⟩:∃ w1,w1=w.alloc (.cells (DX.mk 2 n b y).arr 59):=⟨_,rfl⟩
 have hb1:Below w.heap.size w w1:=by rw [hw1];exact (bR _ _).alloc (nR _) _
 have hK1:Blk w1 w.heap.size 59 (DX.mk 2 n b y).arr:=by rw [hw1];exact Blk.new _ _ _
 unfold DX.val;unfold DX.arr at *;have HW1:=lH hw1;clear hw1;have hD1:=hD w1 (powBelow ht hb1);go_enter Tryz.func22,Tryz.ntmps22
 go_wp2_with (first
  | (rw [<-HW1.out];go_at_call 55;refine hD1.mono ?_;rintro e w2 ⟨rfl,hb2⟩;have c0:w2.cell? ⟨w.heap.size,0,none⟩=some (.int .i64 2):=(hK1.below hb2 hK1.lt).cell 0))
 have hK2:=hK1.below hb2 hK1.lt;have hb12:=hb1.trans (hb2.mono hb1.size);have hbd:Below w.heap.size w w2.drew:=hb12.drew;have hT2:=h.keep (KeepX.of_below hbd);have hg2:=globBelow hg hbd;have ht2:=powBelow ht hbd;have hsz:w.heap.size<w2.heap.size:=hK2.lt;have hP:=Free_all hT2 ok n hdd.out.n ht2 (fun hx=>by have:=(hX 1 hx).1;omega);have hi:=freeE_in t n
 obtain ⟨tr,HTR⟩:∃ r,Hid (freeT t n=r):=⟨_,lH rfl⟩
 rw [HTR.out] at hP hi;refine regionE 11 (fun W0=>Blk W0 w.heap.size 59 #[.int .i64 2,.int .u32 (n:Nat),.int .i64 b,.int .i64 y.kind,.int .u64 (y.lsn:Nat),.slice y.ca y.l.length y.cc,.int .u32 (y.next:Nat),.slice y.da y.data.length y.dc,.int .u32 (y.root:Nat),.int .u32 (y.pages:Nat),.int .u32 (y.free:Nat),.int .u64 (y.entries:Nat)]) (by kernel_rfl) (by kernel_rfl) (by kernel_rfl) (by kernel_rfl) (by kernel_rfl) (hK2) (fun hHeld hTl=>?_);refine tkT 0 (v:=?_) hTl hHeld rfl ?_ (fun hTl=>?_);rotate_left
 ·intro w hSw;(try dsimp only at hSw);go_simp;all_goals with_reducible rfl
 try simp only [pT]
 refine tkT 1 (v:=?_) hTl hHeld rfl ?_ (fun hTl=>?_);rotate_left
 ·intro w hSw;(try dsimp only at hSw);go_simp;all_goals with_reducible rfl
 try simp only [pT]
 refine takeE 2 (v:=.int .u32 (n:Nat)) hTl rfl (by decide) (by kernel_rfl) (by kernel_rfl) (fun _ _ _ h=>h) hHeld (Or.inl ⟨by rfl,?_⟩) (fun hTl=>?_)
 ·intro W hSw;have hsw:Blk W w.heap.size 59 #[.int .i64 2,.int .u32 (n:Nat),.int .i64 b,.int .i64 y.kind,.int .u64 (y.lsn:Nat),.slice y.ca y.l.length y.cc,.int .u32 (y.next:Nat),.slice y.da y.data.length y.dc,.int .u32 (y.root:Nat),.int .u32 (y.pages:Nat),.int .u32 (y.free:Nat),.int .u64 (y.entries:Nat)]:=hSw;have c1:W.cell? ⟨w.heap.size,1,none⟩=some (.int .u32 (n:Nat)):=hsw.cell 1;go_simp
 try simp only [pT]
 refine tkT 4 (v:=?_) hTl hHeld rfl ?_ (fun hTl=>?_);rotate_left
 ·intro w hSw;(try dsimp only at hSw);go_simp;all_goals with_reducible rfl
 try simp only [pT]
 refine tkT 6 (v:=?_) hTl hHeld rfl ?_ (fun hTl=>?_);rotate_left
 ·intro w hSw;(try dsimp only at hSw);go_simp;all_goals with_reducible rfl
 try simp only [pT]
 refine tkT 7 (v:=?_) hTl hHeld rfl ?_ (fun hTl=>?_);rotate_left
 ·intro w hSw;(try dsimp only at hSw);go_simp;all_goals with_reducible rfl
 try simp only [pT]
 refine takeE 8 (v:=.int .u32 (n:Nat)) hTl rfl (by decide) (by kernel_rfl) (by kernel_rfl) (fun _ _ _ h=>h) hHeld (Or.inl ⟨by rfl,?_⟩) (fun hTl=>?_)
 ·intro W hSw;have hsw:Blk W w.heap.size 59 #[.int .i64 2,.int .u32 (n:Nat),.int .i64 b,.int .i64 y.kind,.int .u64 (y.lsn:Nat),.slice y.ca y.l.length y.cc,.int .u32 (y.next:Nat),.slice y.da y.data.length y.dc,.int .u32 (y.root:Nat),.int .u32 (y.pages:Nat),.int .u32 (y.free:Nat),.int .u64 (y.entries:Nat)]:=hSw;have c1:W.cell? ⟨w.heap.size,1,none⟩=some (.int .u32 (n:Nat)):=hsw.cell 1;go_simp
 try simp only [pT]
 have hTl2:=hTl.step 3 (by kernel_rfl) (by decide);clear hTl;refine oneE 3 rfl (by kernel_rfl) (fun K hK=>?_);refine sC rfl 20 _ (by go_simp) hP ?_
 rintro e w3 ⟨v,B,e3,hB,hv,hT3,hf3⟩;subst e3;refine ⟨_,rfl,?_⟩;have hB':w2.heap.size<=B:=hB;have hK3:=Blk.fr (show Blk w2.drew w.heap.size 59 _ from hK2) hf3 (hTM _ (by omega))
 refine hK.out _ _ (fun _=>hK3) ?_;clear hK K
 try simp only [pT]
 have hTl:=hTl2;clear hTl2;have hC:=ptold_any (B:=B) (globFr hg2 hf3 (hTM _ (by omega))) (powFr ht2 hf3 (hTM _ (by omega))) hv.w (by omega) hi;unfold sFree digB at hC;have hHeld:=hK3;have hTl2:=hTl.step 5 (by kernel_rfl) (by decide);clear hTl;refine oneE 5 rfl (by kernel_rfl) (fun K hK=>?_);refine sC rfl 27 _ (by go_simp) hC ?_
 rintro e w4 ⟨e4,hf4⟩;subst e4;refine ⟨_,rfl,?_⟩;have hK4:=Blk.fr hK3 hf4 (show ¬ B<=w.heap.size by omega)
 refine hK.out _ _ (fun _=>hK4) ?_;clear hK K
 try simp only [pT]
 have hTl:=hTl2;clear hTl2;have hR:=rFree_nil (.int .u32 (n:Nat)) w4;have hHeld:=hK4;have hTl2:=hTl.step 9 (by kernel_rfl) (by decide);clear hTl;refine oneE 9 rfl (by kernel_rfl) (fun K hK=>?_);refine sC rfl 42 _ (by go_simp) hR ?_;rintro e w5 ⟨e5,h5⟩;subst e5;subst h5;refine ⟨_,rfl,?_⟩;refine hK.out _ _ (fun _=>hK4) ?_;clear hK K
 try simp only [pT]
 have hTl:=hTl2;clear hTl2;refine tkT 10 (v:=?_) hTl hHeld rfl ?_ (fun hTl=>?_);rotate_left
 ·intro w hSw;(try dsimp only at hSw);go_simp;all_goals with_reducible rfl
 try simp only [pT]
 clear hTl;refine oneE 11 rfl (by kernel_rfl) (fun K hK=>?_);go_simp;refine hK.out _ _ (fun h=>absurd h (by decide)) ?_;clear hK K
 try simp only [pT]
 refine doneE (by kernel_rfl) ?_ _;go_wp2;go_ret;have hfr3:Fr (TM T M) w w3:=(Fr.of_below hbd).trans hf3;have hfr5:=hfr3.late hf4 (fun j hj hy=>by have hy:B<=j:=hy;omega);refine ⟨⟨_,rfl⟩,?_,hfr5⟩;rw [HTR.out];exact (hT3.keep (keepLt hf4 (fun k hk=>hk))).mono fun k hk=>hk.1.imp id fun h=>nT hbd.size h
theorem do_3 {X:Nat->Prop} {w:World} {T M:Nat} {t:PT} (h:TX X w T M t) (ok:t.OK) (hX:∀ k,X k->2<=k/\k<w.heap.size) (d:DX) (hd:DeedOK w d) (hk:d.kd=3) (hg:GlobAt w) (ht:PowAt w) :
 Calls Tryz.prog 22 #[.pointer (some ⟨T,0,none⟩),.pointer none,d.val] w fun e w'=>DoR X w T M ((rootT t d.n).2) e w':=by
 have hD:=fun W hW=>pdigits_any d.n hd.n W hW;have h1lt:=pow_lt ht;have hTM:∀ k,(k<2\/w.heap.size<=k)->¬ TM T M k:=fun k hk=>h.no (fun hx=>by have:=hX k hx;omega);obtain ⟨kd,n,b,y⟩:=d;simp only at hk;subst hk;have hdd:=lH hd;clear hd
 obtain ⟨w1,hw1⟩:∃ w1,w1=w.alloc (.cells (DX.mk 3 n b y).arr 59):=⟨_,rfl⟩
 have hb1:Below w.heap.size w w1:=by rw [hw1];exact (bR _ _).alloc (nR _) _
 have hK1:Blk w1 w.heap.size 59 (DX.mk 3 n b y).arr:=by rw [hw1];exact Blk.new _ _ _
 unfold DX.val;unfold DX.arr at *;have HW1:=lH hw1;clear hw1;have hD1:=hD w1 (powBelow ht hb1);go_enter Tryz.func22,Tryz.ntmps22
 go_wp2_with (first
  | (rw [<-HW1.out];go_at_call 55;refine hD1.mono ?_;rintro e w2 ⟨rfl,hb2⟩;have c0:w2.cell? ⟨w.heap.size,0,none⟩=some (.int .i64 3):=(hK1.below hb2 hK1.lt).cell 0))
 have hK2:=hK1.below hb2 hK1.lt;have hb12:=hb1.trans (hb2.mono hb1.size);have hbd:Below w.heap.size w w2.drew:=hb12.drew;have hT2:=h.keep (KeepX.of_below hbd);have hg2:=globBelow hg hbd;have ht2:=powBelow ht hbd;have hsz:w.heap.size<w2.heap.size:=hK2.lt;have hP:=SetRoot_all hT2 n hdd.out.n ht2 (fun hx=>by have:=(hX 1 hx).1;omega);have hi:=rootE_in t n
 obtain ⟨tr,HTR⟩:∃ r,Hid (rootT t n=r):=⟨_,lH rfl⟩
 rw [HTR.out] at hP hi;refine regionE 11 (fun W0=>Blk W0 w.heap.size 59 #[.int .i64 3,.int .u32 (n:Nat),.int .i64 b,.int .i64 y.kind,.int .u64 (y.lsn:Nat),.slice y.ca y.l.length y.cc,.int .u32 (y.next:Nat),.slice y.da y.data.length y.dc,.int .u32 (y.root:Nat),.int .u32 (y.pages:Nat),.int .u32 (y.free:Nat),.int .u64 (y.entries:Nat)]) (by kernel_rfl) (by kernel_rfl) (by kernel_rfl) (by kernel_rfl) (by kernel_rfl) (hK2) (fun hHeld hTl=>?_);refine tkT 0 (v:=?_) hTl hHeld rfl ?_ (fun hTl=>?_);rotate_left
 ·intro w hSw;(try dsimp only at hSw);go_simp;all_goals with_reducible rfl
 try simp only [pT]
 refine tkT 1 (v:=?_) hTl hHeld rfl ?_ (fun hTl=>?_);rotate_left
 ·intro w hSw;(try dsimp only at hSw);go_simp;all_goals with_reducible rfl
 try simp only [pT]
 refine takeE 2 (v:=.int .u32 (n:Nat)) hTl rfl (by decide) (by kernel_rfl) (by kernel_rfl) (fun _ _ _ h=>h) hHeld (Or.inl ⟨by rfl,?_⟩) (fun hTl=>?_)
 ·intro W hSw;have hsw:Blk W w.heap.size 59 #[.int .i64 3,.int .u32 (n:Nat),.int .i64 b,.int .i64 y.kind,.int .u64 (y.lsn:Nat),.slice y.ca y.l.length y.cc,.int .u32 (y.next:Nat),.slice y.da y.data.length y.dc,.int .u32 (y.root:Nat),.int .u32 (y.pages:Nat),.int .u32 (y.free:Nat),.int .u64 (y.entries:Nat)]:=hSw;have c1:W.cell? ⟨w.heap.size,1,none⟩=some (.int .u32 (n:Nat)):=hsw.cell 1;go_simp
 try simp only [pT]
 refine tkT 4 (v:=?_) hTl hHeld rfl ?_ (fun hTl=>?_);rotate_left
 ·intro w hSw;(try dsimp only at hSw);go_simp;all_goals with_reducible rfl
 try simp only [pT]
 refine tkT 6 (v:=?_) hTl hHeld rfl ?_ (fun hTl=>?_);rotate_left
 ·intro w hSw;(try dsimp only at hSw);go_simp;all_goals with_reducible rfl
 try simp only [pT]
 refine tkT 7 (v:=?_) hTl hHeld rfl ?_ (fun hTl=>?_);rotate_left
 ·intro w hSw;(try dsimp only at hSw);go_simp;all_goals with_reducible rfl
 try simp only [pT]
 refine takeE 8 (v:=.int .u32 (n:Nat)) hTl rfl (by decide) (by kernel_rfl) (by kernel_rfl) (fun _ _ _ h=>h) hHeld (Or.inl ⟨by rfl,?_⟩) (fun hTl=>?_)
 ·intro W hSw;have hsw:Blk W w.heap.size 59 #[.int .i64 3,.int .u32 (n:Nat),.int .i64 b,.int .i64 y.kind,.int .u64 (y.lsn:Nat),.slice y.ca y.l.length y.cc,.int .u32 (y.next:Nat),.slice y.da y.data.length y.dc,.int .u32 (y.root:Nat),.int .u32 (y.pages:Nat),.int .u32 (y.free:Nat),.int .u64 (y.entries:Nat)]:=hSw;have c1:W.cell? ⟨w.heap.size,1,none⟩=some (.int .u32 (n:Nat)):=hsw.cell 1;go_simp
 try simp only [pT]
 have hTl2:=hTl.step 3 (by kernel_rfl) (by decide);clear hTl;refine oneE 3 rfl (by kernel_rfl) (fun K hK=>?_);refine sC rfl 58 _ (by go_simp) hP ?_
 rintro e w3 ⟨v,B,e3,hB,hv,hT3,hf3⟩;subst e3;refine ⟨_,rfl,?_⟩;have hB':w2.heap.size<=B:=hB;have hK3:=Blk.fr (show Blk w2.drew w.heap.size 59 _ from hK2) hf3 (hTM _ (by omega))
 refine hK.out _ _ (fun _=>hK3) ?_;clear hK K
 try simp only [pT]
 have hTl:=hTl2;clear hTl2;have hC:=ptold_any (B:=B) (globFr hg2 hf3 (hTM _ (by omega))) (powFr ht2 hf3 (hTM _ (by omega))) hv.w (by omega) hi;unfold sRoot digB at hC;have hHeld:=hK3;have hTl2:=hTl.step 5 (by kernel_rfl) (by decide);clear hTl;refine oneE 5 rfl (by kernel_rfl) (fun K hK=>?_);refine sC rfl 27 _ (by go_simp) hC ?_
 rintro e w4 ⟨e4,hf4⟩;subst e4;refine ⟨_,rfl,?_⟩;have hK4:=Blk.fr hK3 hf4 (show ¬ B<=w.heap.size by omega)
 refine hK.out _ _ (fun _=>hK4) ?_;clear hK K
 try simp only [pT]
 have hTl:=hTl2;clear hTl2;have hR:=rRoot_nil (.int .u32 (n:Nat)) w4;have hHeld:=hK4;have hTl2:=hTl.step 9 (by kernel_rfl) (by decide);clear hTl;refine oneE 9 rfl (by kernel_rfl) (fun K hK=>?_);refine sC rfl 59 _ (by go_simp) hR ?_;rintro e w5 ⟨e5,h5⟩;subst e5;subst h5;refine ⟨_,rfl,?_⟩;refine hK.out _ _ (fun _=>hK4) ?_;clear hK K
 try simp only [pT]
 have hTl:=hTl2;clear hTl2;refine tkT 10 (v:=?_) hTl hHeld rfl ?_ (fun hTl=>?_);rotate_left
 ·intro w hSw;(try dsimp only at hSw);go_simp;all_goals with_reducible rfl
 try simp only [pT]
 clear hTl;refine oneE 11 rfl (by kernel_rfl) (fun K hK=>?_);go_simp;refine hK.out _ _ (fun h=>absurd h (by decide)) ?_;clear hK K
 try simp only [pT]
 refine doneE (by kernel_rfl) ?_ _;go_wp2;go_ret;have hfr3:Fr (TM T M) w w3:=(Fr.of_below hbd).trans hf3;have hfr5:=hfr3.late hf4 (fun j hj hy=>by have hy:B<=j:=hy;omega);refine ⟨⟨_,rfl⟩,?_,hfr5⟩;rw [HTR.out];exact (hT3.keep (keepLt hf4 (fun k hk=>hk))).mono fun k hk=>hk.1.imp id fun h=>nT hbd.size h
theorem do_4 {X:Nat->Prop} {w:World} {T M:Nat} {t:PT} (h:TX X w T M t) (ok:t.OK) (hX:∀ k,X k->2<=k/\k<w.heap.size) (d:DX) (hd:DeedOK w d) (hk:d.kd=4) (hg:GlobAt w) (ht:PowAt w) :
 Calls Tryz.prog 22 #[.pointer (some ⟨T,0,none⟩),.pointer none,d.val] w fun e w'=>DoR X w T M ((countT t d.b).2) e w':=by
 have hD:=fun W hW=>pdigits_any d.n hd.n W hW;have h1lt:=pow_lt ht;have hTM:∀ k,(k<2\/w.heap.size<=k)->¬ TM T M k:=fun k hk=>h.no (fun hx=>by have:=hX k hx;omega);obtain ⟨kd,n,b,y⟩:=d;simp only at hk;subst hk;have hdd:=lH hd;clear hd
 obtain ⟨w1,hw1⟩:∃ w1,w1=w.alloc (.cells (DX.mk 4 n b y).arr 59):=⟨_,rfl⟩
 have hb1:Below w.heap.size w w1:=by rw [hw1];exact (bR _ _).alloc (nR _) _
 have hK1:Blk w1 w.heap.size 59 (DX.mk 4 n b y).arr:=by rw [hw1];exact Blk.new _ _ _
 unfold DX.val;unfold DX.arr at *;have HW1:=lH hw1;clear hw1;have hD1:=hD w1 (powBelow ht hb1);go_enter Tryz.func22,Tryz.ntmps22
 go_wp2_with (first
  | (rw [<-HW1.out];go_at_call 55;refine hD1.mono ?_;rintro e w2 ⟨rfl,hb2⟩;have c0:w2.cell? ⟨w.heap.size,0,none⟩=some (.int .i64 4):=(hK1.below hb2 hK1.lt).cell 0))
 have hK2:=hK1.below hb2 hK1.lt;have hb12:=hb1.trans (hb2.mono hb1.size);have hbd:Below w.heap.size w w2.drew:=hb12.drew;have hT2:=h.keep (KeepX.of_below hbd);have hg2:=globBelow hg hbd;have ht2:=powBelow ht hbd;have hsz:w.heap.size<w2.heap.size:=hK2.lt;have hP:=Count_all hT2 ok b hdd.out.b.1 hdd.out.b.2;have hi:=countE_in t b
 obtain ⟨tr,HTR⟩:∃ r,Hid (countT t b=r):=⟨_,lH rfl⟩
 rw [HTR.out] at hP hi;refine regionE 10 (fun W0=>Blk W0 w.heap.size 59 #[.int .i64 4,.int .u32 (n:Nat),.int .i64 b,.int .i64 y.kind,.int .u64 (y.lsn:Nat),.slice y.ca y.l.length y.cc,.int .u32 (y.next:Nat),.slice y.da y.data.length y.dc,.int .u32 (y.root:Nat),.int .u32 (y.pages:Nat),.int .u32 (y.free:Nat),.int .u64 (y.entries:Nat)]) (by kernel_rfl) (by kernel_rfl) (by kernel_rfl) (by kernel_rfl) (by kernel_rfl) (hK2) (fun hHeld hTl=>?_);refine tkT 0 (v:=?_) hTl hHeld rfl ?_ (fun hTl=>?_);rotate_left
 ·intro w hSw;(try dsimp only at hSw);go_simp;all_goals with_reducible rfl
 try simp only [pT]
 refine tkT 1 (v:=?_) hTl hHeld rfl ?_ (fun hTl=>?_);rotate_left
 ·intro w hSw;(try dsimp only at hSw);go_simp;all_goals with_reducible rfl
 try simp only [pT]
 refine takeE 2 (v:=.int .i64 b) hTl rfl (by decide) (by kernel_rfl) (by kernel_rfl) (fun _ _ _ h=>h) hHeld (Or.inl ⟨by rfl,?_⟩) (fun hTl=>?_)
 ·intro W hSw;have hsw:Blk W w.heap.size 59 #[.int .i64 4,.int .u32 (n:Nat),.int .i64 b,.int .i64 y.kind,.int .u64 (y.lsn:Nat),.slice y.ca y.l.length y.cc,.int .u32 (y.next:Nat),.slice y.da y.data.length y.dc,.int .u32 (y.root:Nat),.int .u32 (y.pages:Nat),.int .u32 (y.free:Nat),.int .u64 (y.entries:Nat)]:=hSw;have c2:W.cell? ⟨w.heap.size,2,none⟩=some (.int .i64 b):=hsw.cell 2;go_simp
 try simp only [pT]
 refine tkT 5 (v:=?_) hTl hHeld rfl ?_ (fun hTl=>?_);rotate_left
 ·intro w hSw;(try dsimp only at hSw);go_simp;all_goals with_reducible rfl
 try simp only [pT]
 refine tkT 6 (v:=?_) hTl hHeld rfl ?_ (fun hTl=>?_);rotate_left
 ·intro w hSw;(try dsimp only at hSw);go_simp;all_goals with_reducible rfl
 try simp only [pT]
 refine takeE 7 (v:=.int .i64 b) hTl rfl (by decide) (by kernel_rfl) (by kernel_rfl) (fun _ _ _ h=>h) hHeld (Or.inl ⟨by rfl,?_⟩) (fun hTl=>?_)
 ·intro W hSw;have hsw:Blk W w.heap.size 59 #[.int .i64 4,.int .u32 (n:Nat),.int .i64 b,.int .i64 y.kind,.int .u64 (y.lsn:Nat),.slice y.ca y.l.length y.cc,.int .u32 (y.next:Nat),.slice y.da y.data.length y.dc,.int .u32 (y.root:Nat),.int .u32 (y.pages:Nat),.int .u32 (y.free:Nat),.int .u64 (y.entries:Nat)]:=hSw;have c2:W.cell? ⟨w.heap.size,2,none⟩=some (.int .i64 b):=hsw.cell 2;go_simp
 try simp only [pT]
 have hTl2:=hTl.step 3 (by kernel_rfl) (by decide);clear hTl;refine oneE 3 rfl (by kernel_rfl) (fun K hK=>?_);refine sC rfl 60 _ (by go_simp) hP ?_
 rintro e w3 ⟨v,B,e3,hB,hv,hT3,hf3⟩;subst e3;refine ⟨_,rfl,?_⟩;have hB':w2.heap.size<=B:=hB;have hK3:=Blk.fr (show Blk w2.drew w.heap.size 59 _ from hK2) hf3 (hTM _ (by omega))
 refine hK.out _ _ (fun _=>hK3) ?_;clear hK K
 try simp only [pT]
 have hTl:=hTl2;clear hTl2;have hC:=ptold_any (B:=B) (globFr hg2 hf3 (hTM _ (by omega))) (powFr ht2 hf3 (hTM _ (by omega))) hv.w (by omega) hi;unfold sCount at hC;have hHeld:=hK3;have hTl2:=hTl.step 4 (by kernel_rfl) (by decide);clear hTl;refine oneE 4 rfl (by kernel_rfl) (fun K hK=>?_);refine sC rfl 27 _ (by go_simp) hC ?_
 rintro e w4 ⟨e4,hf4⟩;subst e4;refine ⟨_,rfl,?_⟩;have hK4:=Blk.fr hK3 hf4 (show ¬ B<=w.heap.size by omega)
 refine hK.out _ _ (fun _=>hK4) ?_;clear hK K
 try simp only [pT]
 have hTl:=hTl2;clear hTl2;have hR:=rCount_nil (.int .i64 b) w4;have hHeld:=hK4;have hTl2:=hTl.step 8 (by kernel_rfl) (by decide);clear hTl;refine oneE 8 rfl (by kernel_rfl) (fun K hK=>?_);refine sC rfl 61 _ (by go_simp) hR ?_;rintro e w5 ⟨e5,h5⟩;subst e5;subst h5;refine ⟨_,rfl,?_⟩;refine hK.out _ _ (fun _=>hK4) ?_;clear hK K
 try simp only [pT]
 have hTl:=hTl2;clear hTl2;refine tkT 9 (v:=?_) hTl hHeld rfl ?_ (fun hTl=>?_);rotate_left
 ·intro w hSw;(try dsimp only at hSw);go_simp;all_goals with_reducible rfl
 try simp only [pT]
 clear hTl;refine oneE 10 rfl (by kernel_rfl) (fun K hK=>?_);go_simp;refine hK.out _ _ (fun h=>absurd h (by decide)) ?_;clear hK K
 try simp only [pT]
 refine doneE (by kernel_rfl) ?_ _;go_wp2;go_ret;have hfr3:Fr (TM T M) w w3:=(Fr.of_below hbd).trans hf3;have hfr5:=hfr3.late hf4 (fun j hj hy=>by have hy:B<=j:=hy;omega);refine ⟨⟨_,rfl⟩,?_,hfr5⟩;rw [HTR.out];exact (hT3.keep (keepLt hf4 (fun k hk=>hk))).mono fun k hk=>hk.1.imp id fun h=>nT hbd.size h
theorem do_1 {X:Nat->Prop} {w:World} {T M:Nat} {t:PT} (h:TX X w T M t) (ok:t.OK) (hX:∀ k,X k->2<=k/\k<w.heap.size) (d:DX) (hd:DeedOK w d) (hk:d.kd=1) (hg:GlobAt w) (ht:PowAt w) :
 Calls Tryz.prog 22 #[.pointer (some ⟨T,0,none⟩),.pointer none,d.val] w fun e w'=>DoR X w T M ((allocT t).2.2) e w':=by
 have hD:=fun W hW=>pdigits_any d.n hd.n W hW;have h1lt:=pow_lt ht;have hTM:∀ k,(k<2\/w.heap.size<=k)->¬ TM T M k:=fun k hk=>h.no (fun hx=>by have:=hX k hx;omega);obtain ⟨kd,n,b,y⟩:=d;simp only at hk;subst hk;have hdd:=lH hd;clear hd
 obtain ⟨w1,hw1⟩:∃ w1,w1=w.alloc (.cells (DX.mk 1 n b y).arr 59):=⟨_,rfl⟩
 have hb1:Below w.heap.size w w1:=by rw [hw1];exact (bR _ _).alloc (nR _) _
 have hK1:Blk w1 w.heap.size 59 (DX.mk 1 n b y).arr:=by rw [hw1];exact Blk.new _ _ _
 unfold DX.val;unfold DX.arr at *;have HW1:=lH hw1;clear hw1;have hD1:=hD w1 (powBelow ht hb1);go_enter Tryz.func22,Tryz.ntmps22
 go_wp2_with (first
  | (rw [<-HW1.out];go_at_call 55;refine hD1.mono ?_;rintro e w2 ⟨rfl,hb2⟩;have c0:w2.cell? ⟨w.heap.size,0,none⟩=some (.int .i64 1):=(hK1.below hb2 hK1.lt).cell 0))
 have hK2:=hK1.below hb2 hK1.lt;have hb12:=hb1.trans (hb2.mono hb1.size);have hbd:Below w.heap.size w w2.drew:=hb12.drew;have hT2:=h.keep (KeepX.of_below hbd);have hg2:=globBelow hg hbd;have ht2:=powBelow ht hbd;have hsz:w.heap.size<w2.heap.size:=hK2.lt;have hP:=Alloc_all (hT2.keep (w':=w2) ⟨nR _,fun k _ _=>rfl⟩) ok hg2 ht2;have hi:=allocE_in t;have hR:=fun W=>rAlloc_nil W;unfold AllocR at hP
 obtain ⟨ka,HKA⟩:∃ r,Hid ((allocT t).2.1=r):=⟨_,lH rfl⟩
 obtain ⟨kk,HKK⟩:∃ r,Hid ((allocT t).1=r):=⟨_,lH rfl⟩
 rw [HKA.out,HKK.out] at hP;rw [HKK.out] at hi;have hP2:Calls Tryz.prog 17 #[.pointer (some ⟨T,0,none⟩)] w2 _:=hP
 go_wp2_with (first
  | (go_at_call 57;refine (hR _).mono ?_;rintro e w4 ⟨rfl,h4⟩;have h4:=h4.symm;subst h4)
  | (go_at_call 17;refine hP2.mono ?_;rintro e w3 ⟨v,B,rfl,hB,hv,hT3,hf3⟩))
 ·have hC:=ptold_any (B:=B) (globFr (globBelow hg hb12) hf3 (hTM _ (by omega))) (powFr (powBelow ht hb12) hf3 (hTM _ (by omega))) hv.w (by have:w2.heap.size<=B:=hB;omega) hi;unfold sAlloc at hC
  go_wp2_with (first
   | (go_at_call 27;refine hC.mono ?_;rintro e w5 ⟨rfl,hf5⟩))
  go_ret;have hfr3:Fr (TM T M) w w3:=(Fr.of_below hb12).trans hf3;have hfr5:=hfr3.late hf5 (fun j hj hy=>by have hy:B<=j:=hy;have:w2.heap.size<=B:=hB;omega);exact ⟨⟨_,rfl⟩,(hT3.keep (keepLt hf5 (fun k hk=>hk))).mono fun k hk=>hk.1.imp id fun h=>nT hb12.size h,hfr5⟩
 ·go_ret;have hfr3:Fr (TM T M) w w3:=(Fr.of_below hb12).trans hf3;exact ⟨⟨_,rfl⟩,hT3.mono fun k hk=>hk.1.imp id fun h=>nT hb12.size h,hfr3⟩
theorem do_5 {X:Nat->Prop} {w:World} {T M:Nat} {t:PT} (h:TX X w T M t) (ok:t.OK) (hX:∀ k,X k->2<=k/\k<w.heap.size) (d:DX) (hd:DeedOK w d) (hk:¬ d.kd=0/\¬ d.kd=1/\¬ d.kd=2/\¬ d.kd=3/\¬ d.kd=4) (hg:GlobAt w) (ht:PowAt w) :
 Calls Tryz.prog 22 #[.pointer (some ⟨T,0,none⟩),.pointer none,d.val] w fun e w'=>DoR X w T M (t) e w':=by
 have hD:=fun W hW=>pdigits_any d.n hd.n W hW;have h1lt:=pow_lt ht;have hTM:∀ k,(k<2\/w.heap.size<=k)->¬ TM T M k:=fun k hk=>h.no (fun hx=>by have:=hX k hx;omega);obtain ⟨kd,n,b,y⟩:=d;simp only at hk;obtain ⟨hk0,hk1,hk2,hk3,hk4⟩:=hk
 have z0:(kd==0)=false:=by simpa using hk0
 have z1:(kd==1)=false:=by simpa using hk1
 have z2:(kd==2)=false:=by simpa using hk2
 have z3:(kd==3)=false:=by simpa using hk3
 have z4:(kd==4)=false:=by simpa using hk4
 have hdd:=lH hd;clear hd
 obtain ⟨w1,hw1⟩:∃ w1,w1=w.alloc (.cells (DX.mk kd n b y).arr 59):=⟨_,rfl⟩
 have hb1:Below w.heap.size w w1:=by rw [hw1];exact (bR _ _).alloc (nR _) _
 have hK1:Blk w1 w.heap.size 59 (DX.mk kd n b y).arr:=by rw [hw1];exact Blk.new _ _ _
 unfold DX.val;unfold DX.arr at *;have HW1:=lH hw1;clear hw1;have hD1:=hD w1 (powBelow ht hb1);have hK2':=fun (w2:World) (hb2:Below w1.heap.size w1 w2)=>hK1.below hb2 hK1.lt;have hR:=fun W=>rNode_nil n W;have hN:=fun (W:World) (hbW:Below w.heap.size w W)=>Node_all (h.keep (KeepX.of_below hbW)) ok n hdd.out.n (globBelow hg hbW) (powBelow ht hbW);have hi:=codeR_in t n
 obtain ⟨kk,HKK⟩:∃ r,Hid (codeR (nodeT t n)=r):=⟨_,lH rfl⟩
 rw [HKK.out] at hN hi;have HN:=lH hN;clear hN;go_enter Tryz.func22,Tryz.ntmps22
 go_wp2_with (first
  | (go_at_call 62;refine (HN.out _ hb12).mono ?_)
  | (rw [<-HW1.out];go_at_call 55;refine hD1.mono ?_;rintro e w2 ⟨rfl,hb2⟩;have hb12:=hb1.trans (hb2.mono hb1.size);have c0:w2.cell? ⟨w.heap.size,0,none⟩=some (.int .i64 kd):=(hK1.below hb2 hK1.lt).cell 0;have c1:w2.cell? ⟨w.heap.size,1,none⟩=some (.int .u32 (n:Nat)):=(hK1.below hb2 hK1.lt).cell 1))
 rintro e w3 ⟨y3,v3,_,rfl,hv3,hy3,_,hb3⟩
 obtain ⟨W3,hW3⟩:∃ W3,W3=w3.alloc (.cells #[.int .i64 y3.kind,.int .u64 (y3.lsn:Nat),.slice y3.ca y3.l.length y3.cc,.int .u32 (y3.next:Nat),.slice y3.da y3.data.length y3.dc,.int .u32 (y3.root:Nat),.int .u32 (y3.pages:Nat),.int .u32 (y3.free:Nat),.int .u64 (y3.entries:Nat)] 52):=⟨_,rfl⟩
 have hbW3:Below w3.heap.size w3 W3:=by rw [hW3];exact (bR _ _).alloc (nR _) _
 have hbw3:=hb12.trans (hb3.mono hb12.size);have hbwW:=hbw3.trans (hbW3.mono hbw3.size);have hw1s:w.heap.size<w1.heap.size:=hK1.lt;have hK3:=(hK1.below hb2 hK1.lt).below (hb3.trans (hbW3.mono hb3.size)) (lT hK1.lt hb2.size)
 have k1:(w3.alloc (.cells #[.int .i64 y3.kind,.int .u64 (y3.lsn:Nat),.slice y3.ca y3.l.length y3.cc,.int .u32 (y3.next:Nat),.slice y3.da y3.data.length y3.dc,.int .u32 (y3.root:Nat),.int .u32 (y3.pages:Nat),.int .u32 (y3.free:Nat),.int .u64 (y3.entries:Nat)] 52)).cell? ⟨w.heap.size,1,none⟩=some (.int .u32 (n:Nat)):=by rw [<-hW3];exact hK3.cell 1
 have hR3:=hR W3;unfold zeroX NX.val nodeV at hR3;dsimp only [List.length_nil] at hR3;simp only [Int.natCast_zero] at hR3;have hS:=fun (W:World) (hb:Below w3.heap.size w3 W)=>rSame_zero y3 W ((hy3.below hb).mono hb.size);unfold zeroX NX.val nodeV at hS;dsimp only [List.length_nil] at hS;simp only [Int.natCast_zero] at hS;unfold NX.val nodeV
 have A3:Blk W3 w3.heap.size 52 #[.int .i64 y3.kind,.int .u64 (y3.lsn:Nat),.slice y3.ca y3.l.length y3.cc,.int .u32 (y3.next:Nat),.slice y3.da y3.data.length y3.dc,.int .u32 (y3.root:Nat),.int .u32 (y3.pages:Nat),.int .u32 (y3.free:Nat),.int .u64 (y3.entries:Nat)]:=by rw [hW3];exact Blk.new _ _ _
 have HW3:=lH hW3;have HS:=lH hS;clear hW3 hS
 go_wp2_with (first
  | (rw [<-HW4.out];refine wpList_load_row rfl 52 (.tmp 12) rfl _ rfl _ _ _ _ A4 Tryz.underlying52 rfl (by kernel_rfl) ?_)
  | (refine wpList_load_row rfl 52 (.tmp 14) rfl _ rfl _ _ _ _ B4 Tryz.underlying52 rfl (by kernel_rfl) ?_)
  | (go_at_call 64;refine (HS.out W4 hb3W4).mono ?_)
  | (rw [<-HW3.out];go_at_call 63;refine hR3.mono ?_;rintro e w4 ⟨rfl,hb4⟩;obtain ⟨W4,hW4⟩:∃ W4,W4=w4.alloc (.cells #[.int .i64 0,.int .u64 0,.slice none 0 0,.int .u32 0,.slice none 0 0,.int .u32 0,.int .u32 0,.int .u32 0,.int .u64 0] 52):=⟨_,rfl⟩;have hbW4:Below w4.heap.size w4 W4:=(by rw [hW4];exact (bR _ _).alloc (nR _) _);have hbW34:Below W3.heap.size W3 W4:=hb4.trans (hbW4.mono hb4.size);have A4:=A3.below hbW34 A3.lt;have B4:Blk W4 w4.heap.size 52 #[.int .i64 0,.int .u64 0,.slice none 0 0,.int .u32 0,.slice none 0 0,.int .u32 0,.int .u32 0,.int .u32 0,.int .u64 0]:=(by rw [hW4];exact Blk.new _ _ _);have hb3W4:Below w3.heap.size w3 W4:=hbW3.trans (hbW34.mono hbW3.size);have HW4:=lH hW4;clear hW4))
 rintro e w5 ⟨⟨q,rfl⟩,hb5⟩;have hb35:=hb3W4.trans (hb5.mono hb3W4.size);have hbw5:=hbw3.trans (hb35.mono hbw3.size);have hs2:w.heap.size<w2.heap.size:=lT hw1s hb2.size;have hC:=ptold_any (B:=w2.heap.size) (globBelow hg hbw5) (powBelow ht hbw5) (hv3.below (B':=0) hb35).w (by omega) hi;unfold sPage digB at hC;clear hk0 hk1 hk2 hk3 hk4
 cases q with
 | false =>
  go_wp2;go_ret;exact ⟨⟨_,rfl⟩,(h.keep (KeepX.of_below hbw5)).mono fun k hk=>.inl hk,Fr.of_below hbw5⟩
 | true =>
  go_wp2_with (first
   | (go_at_call 27;refine hC.mono ?_;rintro e w6 ⟨rfl,hf6⟩))
  go_ret;have hfr:=(Fr.of_below (X:=TM T M) hbw5).late hf6 (fun j hj hy=>by have hy:w2.heap.size<=j:=hy;omega);exact ⟨⟨_,rfl⟩,((h.keep (KeepX.of_below hbw5)).keep ⟨hf6.size,fun k hk hl=>hf6.block k hl (fun hy=>by have hy:w2.heap.size<=k:=hy;have:=(hX k hk).2;omega)⟩).mono fun k hk=>.inl hk,hfr⟩
theorem do_any {X:Nat->Prop} {w:World} {T M:Nat} {t:PT} (h:TX X w T M t) (ok:t.OK) (hX:∀ k,X k->2<=k/\k<w.heap.size) (d:DX) (hd:DeedOK w d) (hg:GlobAt w) (ht:PowAt w) :
 Calls Tryz.prog 22 #[.pointer (some ⟨T,0,none⟩),.pointer none,d.val] w fun e w'=>DoR X w T M (doT t d) e w':=by
 unfold doT;by_cases h0:d.kd=0
 ·rw [if_pos h0];exact do_0 h ok hX d hd h0 hg ht
 rw [if_neg h0];by_cases h1:d.kd=1
 ·rw [if_pos h1];exact do_1 h ok hX d hd h1 hg ht
 rw [if_neg h1];by_cases h2:d.kd=2
 ·rw [if_pos h2];exact do_2 h ok hX d hd h2 hg ht
 rw [if_neg h2];by_cases h3:d.kd=3
 ·rw [if_pos h3];exact do_3 h ok hX d hd h3 hg ht
 rw [if_neg h3];by_cases h4:d.kd=4
 ·rw [if_pos h4];exact do_4 h ok hX d hd h4 hg ht
 rw [if_neg h4];exact do_5 h ok hX d hd ⟨h0,h1,h2,h3,h4⟩ hg ht
theorem doT_ok {t:PT} (h:t.OK) (d:DX):(doT t d).OK:=by
 unfold doT
 split
 ·exact putT_ok h _ _
 ·split
  ·exact allocT_ok h
  ·split
   ·exact freeT_ok h _
   ·split
    ·exact rootT_ok h _
    ·split
     ·exact countT_ok h _
     ·exact h
theorem doT_told {t:PT} (h:t.told) (d:DX):(doT t d).told:=by
 unfold doT
 split
 ·exact putT_told h _ _
 ·split
  ·exact allocT_told h
  ·split
   ·exact freeT_told h _
   ·split
    ·exact rootT_told h _
    ·split
     ·exact countT_told h _
     ·exact h
theorem TS:SlT Tryz.prog 31 23 1 24:=SlT.of Tryz.underlying31 (z:=.slice none 0 0) (by kernel_rfl) rfl (by omega) (by omega)
structure PagesO (w:World) (B:Nat) (A:Option Addr) (c:Nat) (qs:List Pt):Prop where
 row:w.ownsRow B 23 1 (.slice A qs.length c) qs.length (qs.map Pt.val)
 each:∀ q∈qs,OwnB w B q.A q.c q.b
 long:∀ q∈qs,q.b.length<=256
theorem pts_one (qs:List Pt):∀ u∈qs.map Pt.val,u.oneCell'=true:=by
 intro u hu;obtain ⟨x,_,rfl⟩:=List.mem_map.1 hu;rfl
theorem PagesO.below {w w':World} {B:Nat} {A:Option Addr} {c:Nat} {qs:List Pt} (h:PagesO w B A c qs) (hb:Below w.heap.size w w'):PagesO w' B A c qs:=⟨own_belN h.row hb,fun q hq=>(h.each q hq).below hb,h.long⟩
theorem own_put {W:World} {base e n c g k:Nat} {xs:List Value} (h:W.ownsRow base e 1 (.slice (some ⟨g,0,none⟩) n c) n xs) (hk:k<n) (u:Value):(W.setCell ⟨g,k,none⟩ u).ownsRow base e 1 (.slice (some ⟨g,0,none⟩) n c) n (xs.set k u):=by
 refine ⟨by rw [List.length_set];exact h.1,?_⟩
 rcases h.2 with ⟨h0,_⟩ | ⟨g',cap,cur,e1,e2,e3,e4,e5,e6,e7⟩
 ·cases h0
 ·right;simp only [Value.slice.injEq,Option.some.injEq,Addr.mk.injEq] at e1;obtain ⟨⟨rfl,_⟩,_,rfl⟩:=e1;have hb:Blk W g e cur:=e3;refine ⟨g,c,cur.setIfInBounds k u,rfl,e2,hb.set_ k u,e4,e5,by rw [Array.size_setIfInBounds];exact e6,?_⟩;rw [Array.toList_setIfInBounds,List.take_set,e7]
theorem overS_at {p:List (List UInt8)} {n:Nat} {b:List UInt8} (h:n<p.length):overS p n b=p.set n b:=by
 unfold overS;rw [show n+1-p.length=0 by omega];simp
theorem overS_pad {p:List (List UInt8)} {n:Nat} {b:List UInt8} (h:p.length<=n):overS (p++[[]]) n b=overS p n b:=by
 unfold overS;congr 1;rw [lQ,List.length_singleton,List.append_assoc];congr 1;rw [show n+1-p.length=(n+1-(p.length+1))+1 by omega,List.replicate_succ];rfl
def imC (x:Im):List Value:=[.int .u32 (x.n:Nat),.slice x.A 256 x.c]
theorem icells_get:∀ (L:List Im) (k:Nat) (x:Im),L[k]?=some x->∀ (j:Nat) (u:Value),(imC x)[j]?=some u->(icells L)[k*2+j]?=some u
 | [],k,x,h,j,u,_=>by simp at h
 | y::L,0,x,h,j,u,hu=>by
  simp only [List.getElem?_cons_zero,Option.some.injEq] at h;subst h;have hj:j<2:=(lS.1 hu).1;have e:icells (y::L)=imC y++icells L:=rfl;rw [e,Nat.zero_mul,Nat.zero_add,List.getElem?_append_left (by exact hj)];exact hu
 | y::L,k+1,x,h,j,u,hu=>by
  rw [List.getElem?_cons_succ] at h;have ih:=icells_get L k x h j u hu;have e:icells (y::L)=imC y++icells L:=rfl;rw [e,List.getElem?_append_right (by show 2<=_;omega),show (k+1)*2+j-(imC y).length=k*2+j by show _-2=_;omega];exact ih
theorem ImgsAt.at_ {B:Nat} {w:World} {I:List Im} {A:Option Addr} {c:Nat} (h:ImgsAt B w I A c) {k:Nat} {x:Im} (hk:I[k]?=some x) :
 ∃ g,A=some ⟨g,0,none⟩/\g<w.heap.size/\w.cell? ⟨g,k*2,none⟩=some (.int .u32 (x.n:Nat))/\w.cell? ⟨g,k*2+1,none⟩=some (.slice x.A 256 x.c):=by
 have hl:k<I.length:=(lS.1 hk).1
 rcases h.row.2 with ⟨e1,e2⟩ | ⟨g,cap,cur,e1,e2,e3,r⟩
 ·omega
 ·simp only [Value.slice.injEq] at e1;obtain ⟨ad,e4,hlt,hc⟩:=(Reads.of_own h.row).2 (by omega);have eA:A=some ⟨g,0,none⟩:=e1.1;rw [eA] at e4
  cases e4
  have f:∀ j u,(imC x)[j]?=some u->w.cell? ⟨g,k*2+j,none⟩=some u:=fun j u hu=>by
   have:=hc _ u (icells_get I k x hk j u hu);unfold Addr.add at this
   split at this
   ·rename_i h9;rw [h9];exact this
   ·simpa using this
  exact ⟨g,eA,hlt,f 0 _ rfl,f 1 _ rfl⟩
def Im.pt (x:Im):Pt:=⟨x.A,x.c,x.b⟩
theorem ImgsAt.pt {B:Nat} {w:World} {I:List Im} {A:Option Addr} {c:Nat} (h:ImgsAt B w I A c) {x:Im} (hx:x∈I):OwnB w B x.pt.A x.pt.c x.pt.b/\x.b.length=256:=by
 have:=h.each x hx;refine ⟨?_,this.2⟩;unfold OwnB;rw [show x.pt.b.length=256 from this.2];exact this.1
def lenOf:Value->Nat
 | .slice _ n _=>n
 | _=>0
structure RowP (w0 w:World) (B:Nat) (A:Option Addr) (c:Nat) (qs:List Pt):Prop where
 row:w.ownsRow w0.heap.size 23 1 (.slice A qs.length c) qs.length (qs.map Pt.val)
 each:∀ q∈qs,OwnB w0 B q.A q.c q.b
 long:∀ q∈qs,q.b.length<=256
 few:qs.length<=600
 bel:Below w0.heap.size w0 w
theorem overL_snoc (p:List (List UInt8)) (l:Over) (n:Nat) (b:List UInt8):overL p (l++[(n,b)])=overS (overL p l) n b:=by
 unfold overL;rw [List.foldl_append];rfl
theorem Over_any {B:Nat} {Ap Ai:Option Addr} {cp ci:Nat} {ps:List Pt} {I:List Im} (w:World) (hB:B<=w.heap.size) (hp:PagesO w B Ap cp ps) (hI:ImgsAt B w I Ai ci) (hn:∀ x∈I,x.n<600) (hl:ps.length<=600) (hil:I.length<=600) :
 Calls Tryz.prog 23 #[.slice Ap ps.length cp,.slice Ai I.length ci] w fun e w'=>∃ qs A c,e=.returned (.slice A qs.length c)/\PagesO w' B A c qs/\qs.map Pt.b=overL (ps.map Pt.b) (I.map Im.nb)/\qs.length<=600/\Below w.heap.size w w':=by
 have HP:=lH (aI hp hI);have hrp:Reads w w.heap.size 1 Ap ps.length (ps.map Pt.val):=Reads.of_own hp.row;clear hp hI;go_enter Tryz.func23,Tryz.ntmps23
 go_wp2_with (first
  | (at_builtin;refine list_push TS rfl rfl w.heap.size rfl (own_emptyH _ _ _ rfl (nR _)) rfl (hrp.alloc (nR _) _) (pts_one ps) (by omega) (by simp) (Nat.zero_add _) (List.nil_append _) ?_;intro A1 c1 w1 hown1 hg1 hat1))
 have hb1:Below w.heap.size w w1:=((bR _ w).alloc (nR _) _).grown hg1 (by simp) (fun k e=>by cases e;exact nR _)
 have hR1:RowP w w1 B A1 c1 ps:=⟨hown1,HP.out.1.each,HP.out.1.long,hl,hb1⟩
 clear hown1 hg1 hat1 hrp
 go_loopw [5,6] (fun out i wr=>∃ (k:Nat) (qs:List Pt) (A:Option Addr) (c:Nat),out=.slice A qs.length c/\i=.int .i64 k/\k<=I.length/\RowP w wr B A c qs/\qs.map Pt.b=overL (ps.map Pt.b) ((I.take k).map Im.nb)) (fun _ i _=>I.length-(intOf i).toNat)
 case atStart=>exact ⟨0,ps,A1,c1,rfl,rfl,zL _,hR1,rfl⟩
 case round =>
  clear hR1 hb1;obtain ⟨k,qs,A,c,rfl,rfl,hk,hR,hm⟩:=hrel
  obtain ⟨wo,rfl⟩:∃ wo,wo=wr:=⟨wr,rfl⟩
  have HM:=lH hm;clear hm;by_cases hlt:k<I.length
  ·have d1:decide (k<I.length)=true:=dT hlt;have d2:decide ((k:Int)<(I.length:Int))=true:=dT (by omega)
   obtain ⟨x,hx⟩:∃ x,I[k]?=some x:=⟨_,gE hlt⟩
   have hxn:=hn x (mG hx);obtain ⟨gi,rfl,hgi,ca,cb⟩:=HP.out.2.at_ hx;have HX:=lH hx;clear hx
   have i0:(0:Int)<=(k:Int):=by omega
   have i1:(k:Int)<(I.length:Int):=by omega
   have u1:IntKind.u64.wrap (x.n:Int)=(x.n:Int):=by rw [IntKind.wrap_u64];omega
   go_wp2
   go_loopw [5] (fun out wr2=>∃ (rs:List Pt) (A:Option Addr) (c:Nat),out=.slice A rs.length c/\RowP w wr2 B A c rs/\overS (rs.map Pt.b) x.n x.b=overS (qs.map Pt.b) x.n x.b) (fun out _=>x.n+1-(lenOf out))
   case atStart=>exact ⟨qs,A,c,rfl,hR,rfl⟩
   case round =>
    obtain ⟨rs,A2,c2,rfl,hR2,hov⟩:=hrel
    obtain ⟨wi,rfl⟩:∃ wi,wi=wr:=⟨wr,rfl⟩
    have ca2:wi.cell? ⟨gi,k*2,none⟩=some (.int .u32 (x.n:Nat)):=(hR2.bel.cell (p:=⟨gi,k*2,none⟩) hgi).trans ca;have cb2:wi.cell? ⟨gi,k*2+1,none⟩=some (.slice x.A 256 x.c):=(hR2.bel.cell (p:=⟨gi,k*2+1,none⟩) hgi).trans cb;have hfew:=hR2.few
    have u2:IntKind.u64.wrap (rs.length:Int)=(rs.length:Int):=by rw [IntKind.wrap_u64];omega
    have HOV:=lH hov;clear hov;by_cases hle:rs.length<=x.n
    ·have d3:decide (rs.length<=x.n)=true:=dT hle;have d4:decide ((rs.length:Int)<=(x.n:Int))=true:=dT (by omega)
     obtain ⟨wj,hwj⟩:∃ wj,wj=wi.alloc (.cells #[.slice none 0 0] 23):=⟨_,rfl⟩
     have hbj:Below wi.heap.size wi wj:=by rw [hwj];exact (bR _ _).alloc (nR _) _
     have hrn:Reads wj wj.heap.size 1 (some ⟨wi.heap.size,0,none⟩) 1 [.slice none 0 0]:=by rw [hwj];exact reads_blk (Blk.new _ _ _) rfl
     have hrow:=own_belN hR2.row hbj;have HR2:=lH hR2;have HWJ:=lH hwj;clear hwj hR2
     have hone:∀ u∈[Value.slice none 0 0],u.oneCell'=true:=fun u hu=>by
      rw [List.mem_singleton] at hu;subst hu;rfl
     have hkl:rs.length+1=(rs++[(⟨none,0,[]⟩:Pt)]).length:=by rw [lQ];rfl
     have hyl:rs.map Pt.val++[Value.slice none 0 0]=(rs++[(⟨none,0,[]⟩:Pt)]).map Pt.val:=by rw [List.map_append];rfl
     have HKL:=lH hkl;have HYL:=lH hyl;clear hkl hyl
     go_wp2_with (first
      | (rw [<-HWJ.out];refine list_push TS rfl rfl w.heap.size rfl hrow rfl hrn hone (by omega) (nT HR2.out.bel.size hbj.size) HKL.out HYL.out ?_;intro A7 c7 w10 ho10 hg10 hob10))
     have hb10:Below w.heap.size w w10:=(HR2.out.bel.trans (hbj.mono HR2.out.bel.size)).trans (grown_below hg10 (nT HR2.out.bel.size hbj.size) (fun ad e=>by subst e;exact (hrow.lt ad.block rfl).1))
     have hR10:RowP w w10 B A7 c7 (rs++[(⟨none,0,[]⟩:Pt)]):=by
      refine ⟨ho10,fun q hq=>?_,fun q hq=>?_,by rw [lQ];have:([(⟨none,0,[]⟩:Pt)]).length=1:=rfl;omega,hb10⟩
      ·rcases List.mem_append.1 hq with hq | hq
       ·exact HR2.out.each q hq
       ·simp only [List.mem_singleton] at hq;subst hq;exact OwnB.nil _ _ 0
      ·rcases List.mem_append.1 hq with hq | hq
       ·exact HR2.out.long q hq
       ·simp only [List.mem_singleton] at hq;subst hq;exact zL _
     have hov10:overS ((rs++[(⟨none,0,[]⟩:Pt)]).map Pt.b) x.n x.b=overS (qs.map Pt.b) x.n x.b:=by
      rw [List.map_append,<-HOV.out];exact overS_pad (by rw [List.length_map];exact hle)
     clear ho10 hrow hrn;refine ⟨⟨rs++[(⟨none,0,[]⟩:Pt)],A7,c7,by rw [<-HKL.out],hR10,hov10⟩,?_⟩;simp only [lenOf];omega
    ·have d3:decide (rs.length<=x.n)=false:=dF hle;have d4:decide ((rs.length:Int)<=(x.n:Int))=false:=dF (by omega)
     have hpos:x.n<rs.length:=by omega
     obtain ⟨gr,hAr,hgr,hkr,hfr⟩:∃ g,A2=some ⟨g,0,none⟩/\w.heap.size<=g/\(∃ u,wi.cell? ⟨g,x.n,none⟩=some u)/\wi.frozen? ⟨g,x.n,none⟩=false:=by
      rcases hR2.row.2 with ⟨e1,e2⟩ | ⟨g,cap,cur,e1,e2,e3,e4,e5,e6,e7⟩
      ·omega
      ·simp only [Value.slice.injEq] at e1;have hb:Blk wi g 23 cur:=e3;refine ⟨g,e1.1,e2,⟨cur[x.n]'(by rw [e6];omega),?_⟩,hb.frozen x.n⟩;rw [hb.cell];exact Array.getElem?_eq_getElem _
     subst hAr;obtain ⟨u0,hku⟩:=hkr
     have i3:(x.n:Int)<(rs.length:Int):=by omega
     have i4:(0:Int)<=(x.n:Int):=by omega
     have hXm:=mG HX.out;have hp256:=HP.out.2.pt hXm
     have hRn:RowP w ((wi.setCell ⟨gr,x.n,none⟩ (.slice x.A 256 x.c)).drew) B (some ⟨gr,0,none⟩) c2 (rs.set x.n x.pt):=by
      have h9:=own_put hR2.row (k:=x.n) hpos (.slice x.A 256 x.c);refine ⟨?_,fun q hq=>?_,fun q hq=>?_,by rw [List.length_set];exact hR2.few,(hR2.bel.setCell (p:=⟨gr,x.n,none⟩) hgr _).drew⟩
      ·rw [List.length_set,List.map_set,show x.pt.val=.slice x.A 256 x.c by show Value.slice x.A x.b.length x.c=_;rw [hp256.2]];exact h9
      ·rcases List.mem_or_eq_of_mem_set hq with hq | rfl
       ·exact hR2.each q hq
       ·exact hp256.1
      ·rcases List.mem_or_eq_of_mem_set hq with hq | rfl
       ·exact hR2.long q hq
       ·exact Nat.le_of_eq hp256.2
     have hmn:(rs.set x.n x.pt).map Pt.b=overL (ps.map Pt.b) ((I.take (k+1)).map Im.nb):=by
      have e1:(I.take (k+1)).map Im.nb=(I.take k).map Im.nb++[(x.n,x.b)]:=by
       rw [List.take_add_one,HX.out,List.map_append];rfl
      rw [e1,overL_snoc,<-HM.out,<-HOV.out,overS_at (by rw [List.length_map];exact hpos),List.map_set];rfl
     have HR2:=lH hR2;clear hR2;have kd1:wi.drew.cell? ⟨gr,x.n,none⟩=some u0:=hku;have kd2:wi.drew.frozen? ⟨gr,x.n,none⟩=false:=hfr
     go_wp2_with fail
     refine regionE 11 (fun W0=>W0.cell? ⟨gi,k*2,none⟩=some (.int .u32 (x.n:Nat))/\W0.cell? ⟨gi,k*2+1,none⟩=some (.slice x.A 256 x.c)) (by kernel_rfl) (by kernel_rfl) (by kernel_rfl) (by kernel_rfl) (by kernel_rfl) (⟨ca2,cb2⟩) (fun hHeld hTl=>?_);refine tkT 0 (v:=?_) hTl hHeld rfl ?_ (fun hTl=>?_);rotate_left
     ·intro w hSw;(try dsimp only at hSw);go_simp;all_goals with_reducible rfl
     try simp only [pT]
     refine tkT 1 (v:=?_) hTl hHeld rfl ?_ (fun hTl=>?_);rotate_left
     ·intro w hSw;(try dsimp only at hSw);go_simp;all_goals with_reducible rfl
     try simp only [pT]
     refine tkT 2 (v:=?_) hTl hHeld rfl ?_ (fun hTl=>?_);rotate_left
     ·intro w hSw;(try dsimp only at hSw);go_simp;all_goals with_reducible rfl
     try simp only [pT]
     refine tkT 3 (v:=?_) hTl hHeld rfl ?_ (fun hTl=>?_);rotate_left
     ·intro w hSw;(try dsimp only at hSw);go_simp;all_goals with_reducible rfl
     try simp only [pT]
     refine tkT 4 (v:=?_) hTl hHeld rfl ?_ (fun hTl=>?_);rotate_left
     ·intro w hSw;(try dsimp only at hSw);go_simp;all_goals with_reducible rfl
     try simp only [pT]
     refine tkT 5 (v:=?_) hTl hHeld rfl ?_ (fun hTl=>?_);rotate_left
     ·intro w hSw;(try dsimp only at hSw);go_simp;all_goals with_reducible rfl
     try simp only [pT]
     refine tkT 6 (v:=?_) hTl hHeld rfl ?_ (fun hTl=>?_);rotate_left
     ·intro w hSw;(try dsimp only at hSw);go_simp;all_goals with_reducible rfl
     try simp only [pT]
     refine tkT 7 (v:=?_) hTl hHeld rfl ?_ (fun hTl=>?_);rotate_left
     ·intro w hSw;(try dsimp only at hSw);go_simp;all_goals with_reducible rfl
     try simp only [pT]
     refine tkT 8 (v:=?_) hTl hHeld rfl ?_ (fun hTl=>?_);rotate_left
     ·intro w hSw;(try dsimp only at hSw);go_simp;all_goals with_reducible rfl
     try simp only [pT]
     refine tkT 9 (v:=?_) hTl hHeld rfl ?_ (fun hTl=>?_);rotate_left
     ·intro w hSw;(try dsimp only at hSw);go_simp;all_goals with_reducible rfl
     try simp only [pT]
     refine tkT 10 (v:=?_) hTl hHeld rfl ?_ (fun hTl=>?_);rotate_left
     ·intro w hSw;(try dsimp only at hSw);go_simp;all_goals with_reducible rfl
     try simp only [pT]
     clear hTl;refine oneE 11 rfl (by kernel_rfl) (fun K hK=>?_);go_simp;refine hK.out _ _ (fun h=>absurd h (by decide)) ?_;clear hK K
     try simp only [pT]
     refine oneE 12 rfl (by kernel_rfl) (fun K hK=>?_);go_simp;refine hK.out _ _ (fun h=>absurd h (by decide)) ?_;clear hK K
     try simp only [pT]
     refine doneE (by kernel_rfl) ?_ _;go_wp2
     go_roundw
     case rel=>exact ⟨k+1,rs.set x.n x.pt,some ⟨gr,0,none⟩,c2,by rw [List.length_set],by go_num,by omega,hRn,hmn⟩
     case measure=>simp [intOf];omega
  ·have d1:decide (k<I.length)=false:=dF hlt;have d2:decide ((k:Int)<(I.length:Int))=false:=dF (by omega)
   obtain rfl:k=I.length:=by omega
   go_wp2;go_ret;refine ⟨qs,A,c,rfl,⟨own_le hR.row hB,fun q hq=>(hR.each q hq).below hR.bel,hR.long⟩,?_,hR.few,hR.bel⟩;rw [HM.out,List.take_of_length_le (nR _)]
structure DeedsAt (w:World) (A:Option Addr) (L:List DX):Prop where
 row:L=[]\/∃ g o,A=some ⟨g,o,none⟩/\g<w.heap.size/\∀ k d,L[k]?=some d->∀ j v,d.arr[j]?=some v->w.cell? ⟨g,o+k*12+j,none⟩=some v
 each:∀ d∈L,NodeIn w d.y/\d.n<4294967296/\(-9223372036854775808<=d.b/\d.b<=9223372036854775807)
def smallX (d:DX):Prop:=d.y.l.length<=24/\d.y.data.length<=600
theorem NodeIn.below {w w':World} {y:NX} (h:NodeIn w y) (hb:Below w.heap.size w w'):NodeIn w' y :=
 ⟨(h.cells.below hb).mono hb.size,rM (h.data.below hb) hb.size,fun x hx=>⟨rM ((h.each x hx).1.below hb) hb.size,rM ((h.each x hx).2.1.below hb) hb.size,(h.each x hx).2.2⟩,h.many,h.long,h.kind,h.lsn,h.next,h.head⟩
theorem DeedsAt.below {w w':World} {A:Option Addr} {L:List DX} (h:DeedsAt w A L) (hb:Below w.heap.size w w'):DeedsAt w' A L:=by
 refine ⟨h.row.imp id ?_,fun d hd=>⟨(h.each d hd).1.below hb,(h.each d hd).2⟩⟩;rintro ⟨g,o,e,hg,hc⟩;exact ⟨g,o,e,lT hg hb.size,fun k d hd j v hv=>(hb.cell (p:=⟨g,o+k*12+j,none⟩) hg).trans (hc k d hd j v hv)⟩
theorem deedOK {w:World} {d:DX} (h:NodeIn w d.y) (hn:d.n<4294967296) (hb:-9223372036854775808<=d.b/\d.b<=9223372036854775807) (hs:smallX d):DeedOK w d :=
 ⟨⟨h.cells,h.data,fun x hx=>(h.each x hx).2.2.2.2,by have:=hs.1;omega,by have:=hs.2;omega⟩,⟨h.lsn,h.next,h.head.1,h.head.2.1,h.head.2.2.1,h.head.2.2.2,fun c hc=>by
  obtain ⟨x,hx,rfl⟩:=List.mem_map.1 hc
  exact (h.each x hx).2.2.2.2⟩,hn,hb⟩
def SmallR (L:List DX) (w:World) (e:Ending) (w':World):Prop:=(∃ q,e=.returned (.bool q)/\(q=true->L.length<=60/\∀ d∈L,smallX d))/\w'=w
theorem smallB_any {w:World} {A:Option Addr} {c:Nat} {L:List DX} (h:DeedsAt w A L) (hl:L.length<=9223372036854775807) :
 Calls Tryz.prog 21 #[.slice none 0 0,.slice A L.length c] w fun e w'=>SmallR L w e w':=by
 have H:=lH h;clear h;go_enter Tryz.func21,Tryz.ntmps21;go_wp2;refine wp_loop_rounds 1 ?_;rw [rounds_succ];go_wp2
 go_loop [6] (fun t=>∃ k:Nat,k<=L.length/\k<=61/\t=.int .i64 k/\∀ j d,j<k->L[j]?=some d->smallX d) (fun t=>L.length-(intOf t).toNat)
 case atStart=>exact ⟨0,zL _,by omega,rfl,fun j d hj=>absurd hj (Nat.not_lt_zero _)⟩
 case round =>
  obtain ⟨k,hk,hk61,rfl,hsm⟩:=hrel;have HSM:=lH hsm;clear hsm;by_cases hlt:k<L.length
  ·have d1:decide (k<L.length)=true:=dT hlt;have d2:decide ((k:Int)<(L.length:Int))=true:=dT (by omega);by_cases h60:k<=60
   ·have d3:decide (k<=60)=true:=dT h60;have d4:decide ((k:Int)<=60)=true:=dT (by omega)
    obtain ⟨d,hd⟩:∃ d,L[k]?=some d:=⟨_,gE hlt⟩
    obtain ⟨g,o,rfl,hg,hc⟩:=H.out.row.resolve_left (fun e=>by rw [e] at hlt;exact absurd hlt (Nat.not_lt_zero _));have c5:w.cell? ⟨g,o+k*12+3+2,none⟩=some (.slice d.y.ca d.y.l.length d.y.cc):=hc k d hd 5 _ rfl;have c7:w.cell? ⟨g,o+k*12+3+4,none⟩=some (.slice d.y.da d.y.data.length d.y.dc):=hc k d hd 7 _ rfl;have c5':w.cell? ⟨g,o+k*12+5,none⟩=some (.slice d.y.ca d.y.l.length d.y.cc):=hc k d hd 5 _ rfl;have c7':w.cell? ⟨g,o+k*12+7,none⟩=some (.slice d.y.da d.y.data.length d.y.dc):=hc k d hd 7 _ rfl;have HD:=lH hd;clear hc hd
    have i0:(0:Int)<=(k:Int):=by omega
    have i1:(k:Int)<(L.length:Int):=by omega
    by_cases h24:d.y.l.length<=24
    ·have d5:decide (24<d.y.l.length)=false:=dF (by omega);have d6:decide ((24:Int)<(d.y.l.length:Int))=false:=dF (by omega);by_cases hda:d.y.data.length<=600
     ·have d7:decide (600<d.y.data.length)=false:=dF (by omega);have d8:decide ((600:Int)<(d.y.data.length:Int))=false:=dF (by omega);go_wp2
      go_loop [7] (fun t=>∃ m:Nat,m<=d.y.l.length/\t=.int .i64 m) (fun t=>d.y.l.length-(intOf t).toNat)
      case atStart=>exact ⟨0,zL _,rfl⟩
      case round =>
       obtain ⟨m,hm,rfl⟩:=hrel;have HC:=lH (H.out.each d (mG HD.out)).1.cells;by_cases hml:m<d.y.l.length
       ·have e1:decide (m<d.y.l.length)=true:=dT hml;have e2:decide ((m:Int)<(d.y.l.length:Int))=true:=dT (by omega)
        obtain ⟨x,hx⟩:∃ x,d.y.l[m]?=some x:=⟨_,gE hml⟩
        obtain ⟨g2,o2,hca,hg2,hc2⟩:=HC.out.at_ (Nat.lt_of_le_of_lt (zL _) hml);obtain ⟨k1,_,k2,_⟩:=hc2 m x hx;clear hx hc2
        have j0:(0:Int)<=(m:Int):=by omega
        have j1:(m:Int)<(d.y.l.length:Int):=by omega
        by_cases hk6:x.c.key.length<=600
        ·have e3:decide (600<x.c.key.length)=false:=dF (by omega);have e4:decide ((600:Int)<(x.c.key.length:Int))=false:=dF (by omega);by_cases hv6:x.c.val.length<=600
         ·have e5:decide (600<x.c.val.length)=false:=dF (by omega);have e6:decide ((600:Int)<(x.c.val.length:Int))=false:=dF (by omega);go_wp2
          go_round
          case rel=>exact ⟨m+1,by omega,by go_num⟩
          case measure=>simp [intOf];omega
         ·have e5:decide (600<x.c.val.length)=true:=dT (by omega);have e6:decide ((600:Int)<(x.c.val.length:Int))=true:=dT (by omega);go_wp2;go_ret;exact ⟨⟨_,rfl,fun h=>by cases h⟩,rfl⟩
        ·have e3:decide (600<x.c.key.length)=true:=dT (by omega);have e4:decide ((600:Int)<(x.c.key.length:Int))=true:=dT (by omega);go_wp2;go_ret;exact ⟨⟨_,rfl,fun h=>by cases h⟩,rfl⟩
       ·have e1:decide (m<d.y.l.length)=false:=dF hml;have e2:decide ((m:Int)<(d.y.l.length:Int))=false:=dF (by omega);go_wp2
        go_round
        case rel=>exact ⟨k+1,by omega,by omega,by go_num,fun j d' hj hd'=>by
         by_cases e:j=k
         ·subst e;rw [HD.out] at hd'
          cases hd'
          exact ⟨h24,hda⟩
         ·exact HSM.out j d' (by omega) hd'⟩
        case measure=>simp [intOf];omega
     ·have d7:decide (600<d.y.data.length)=true:=dT (by omega);have d8:decide ((600:Int)<(d.y.data.length:Int))=true:=dT (by omega);go_wp2;go_ret;exact ⟨⟨_,rfl,fun h=>by cases h⟩,rfl⟩
    ·have d5:decide (24<d.y.l.length)=true:=dT (by omega);have d6:decide ((24:Int)<(d.y.l.length:Int))=true:=dT (by omega);go_wp2;go_ret;exact ⟨⟨_,rfl,fun h=>by cases h⟩,rfl⟩
   ·have d3:decide (k<=60)=false:=dF h60;have d4:decide ((k:Int)<=60)=false:=dF (by omega);have d9:decide (L.length<=60)=false:=dF (by omega);have d10:decide ((L.length:Int)<=60)=false:=dF (by omega);go_wp2;go_ret;exact ⟨⟨_,rfl,fun h=>by cases h⟩,rfl⟩
  ·have d1:decide (k<L.length)=false:=dF hlt;have d2:decide ((k:Int)<(L.length:Int))=false:=dF (by omega)
   obtain rfl:k=L.length:=by omega
   by_cases h60:L.length<=60
   ·have d9:decide (L.length<=60)=true:=dT h60;have d10:decide ((L.length:Int)<=60)=true:=dT (by omega);go_wp2;go_ret
    exact ⟨⟨_,rfl,fun _=>⟨h60,fun d hd=>by
     obtain ⟨j,hj⟩:=List.getElem?_of_mem hd
     exact HSM.out j d (lS.1 hj).1 hj⟩⟩,rfl⟩
   ·have d9:decide (L.length<=60)=false:=dF h60;have d10:decide ((L.length:Int)<=60)=false:=dF (by omega);go_wp2;go_ret;exact ⟨⟨_,rfl,fun h=>by cases h⟩,rfl⟩
def headV (t:PT):Value:=.agg #[.int .u32 (t.root:Nat),.int .u32 (t.pages:Nat),.int .u32 (t.free:Nat),.int .u64 (t.entries:Nat)]
theorem Head_any {X:Nat->Prop} {w:World} {T M:Nat} {t:PT} (h:TX X w T M t):Calls Tryz.prog 15 #[.pointer (some ⟨T,0,none⟩)] w fun e w'=>e=.returned (headV t)/\Below w.heap.size w w':=by
 obtain ⟨O,ck,src,h⟩:=h;have f2:w.cell? ⟨T,2,none⟩=some (.int .u32 (t.root:Nat)):=h.blk.cell 2;have f3:w.cell? ⟨T,3,none⟩=some (.int .u32 (t.pages:Nat)):=h.blk.cell 3;have f4:w.cell? ⟨T,4,none⟩=some (.int .u32 (t.free:Nat)):=h.blk.cell 4;have f5:w.cell? ⟨T,5,none⟩=some (.int .u64 (t.entries:Nat)):=h.blk.cell 5;have hT:=h.lt.1;clear h;unfold headV;go_enter Tryz.func15,Tryz.ntmps15;go_wp2;refine bodyPost_ret (results_cell_row rfl _ _ w.heap.size 43 _ (0,0) _ rfl (heap_alloc_new w _) Tryz.underlying43 rfl (by kernel_rfl)) rfl ?_;exact ⟨rfl,(bR _ w).alloc (nR _) _⟩
theorem Changes_not {X:Nat->Prop} {w:World} {T M:Nat} {t:PT} (h:TX X w T M t) (hc:t.changed=false) :
 Calls Tryz.prog 24 #[.pointer (some ⟨T,0,none⟩)] w fun e w'=>e=.returned (.slice none 0 0)/\w'=w:=by
 obtain ⟨O,ck,src,h⟩:=h
 have f7:w.cell? ⟨T,7,none⟩=some (.bool false):=by rw [<-hc];exact h.blk.cell 7
 clear h;go_enter Tryz.func24,Tryz.ntmps24;go_wp2;go_ret;exact ⟨rfl,rfl⟩
def ChgR (w:World) (t:PT) (e:Ending) (w':World):Prop:=∃ I A c,e=.returned (.slice A I.length c)/\ImgsAt w.heap.size w' I A c/\I.map Im.nb=changesT t/\Below w.heap.size w w'
theorem Changes_any2 {X:Nat->Prop} {w:World} {T M:Nat} {t:PT} (h:TX X w T M t) (ok:t.OK):Calls Tryz.prog 24 #[.pointer (some ⟨T,0,none⟩)] w fun e w'=>ChgR w t e w':=by
 cases hc:t.changed with
 | true=>exact Changes_all h ok hc
 | false =>
  refine (Changes_not h hc).mono ?_;rintro e w' ⟨rfl,rfl⟩
  have e1:changesT t=[]:=by unfold changesT;rw [hc];rfl
  exact ⟨[],none,0,rfl,⟨World.ownsRow_nil _ _ _ _,fun x hx=>absurd hx (List.not_mem_nil)⟩,by rw [e1];rfl,bR _ _⟩
theorem doT_changed {t:PT} (h:t.changed=true) (d:DX):(doT t d).changed=true:=by
 have hl:∀ (u:PT) (n:Nat) (x:PN),u.changed=true->(layT u n x).changed=true:=fun u n x hu=>by
  unfold layT;split
  ·rfl
  ·exact hu
 unfold doT
 split
 ·unfold putT;split
  ·exact h
  ·exact hl _ _ _ h
 ·split
  ·unfold allocT
   split
   ·split
    ·exact h
    ·split
     ·exact h
     ·rfl
   ·split
    ·exact h
    ·rfl
  ·split
   ·unfold freeT;split
    ·exact h
    ·split
     ·exact h
     ·exact hl _ _ _ h
   ·split
    ·unfold rootT;split
     ·exact h
     ·rfl
    ·split
     ·unfold countT;split
      ·exact h
      ·rfl
     ·exact h
theorem doT_src (t:PT) (d:DX):(doT t d).src=t.src:=by
 unfold doT
 split
 ·unfold putT;split
  ·rfl
  ·exact (layT_pages t _ _).2.2.2.2.2
 ·split
  ·unfold allocT
   split
   ·split
    ·rfl
    ·split <;> rfl
   ·split <;> rfl
  ·split
   ·unfold freeT;split
    ·rfl
    ·split
     ·rfl
     ·exact (layT_pages t _ _).2.2.2.2.2
   ·split
    ·unfold rootT;split <;> rfl
    ·split
     ·unfold countT;split <;> rfl
     ·rfl
structure LoopT (w0 wr:World) (T M:Nat) (t:PT):Prop where
 tx:TX (fun k=>w0.heap.size<=k/\k<wr.heap.size) wr T M t
 ok:t.OK
 told:t.told
theorem PagesO.src {w0 w:World} {A:Option Addr} {c:Nat} {qs:List Pt} (h:PagesO w w0.heap.size A c qs) (hf:qs.length<=600):SrcAt (fun k=>w0.heap.size<=k) w (.iface 66 (.agg #[.slice A qs.length c])) (qs.map Pt.b) :=
 ⟨A,c,qs,rfl,rfl,Reads.of_own h.row,by omega,fun _ ad e=>⟨own_ge h.row ad e,own_ltN h.row ad e⟩,fun q hq=>⟨(h.each q hq).rd,own_capB (h.each q hq),by have:=h.long q hq;omega,fun _ ad e=>⟨(h.each q hq).ge ad e,own_ltN (h.each q hq) ad e⟩⟩⟩
theorem PagesO.fr {w w':World} {B:Nat} {A:Option Addr} {c:Nat} {qs:List Pt} {T M:Nat} (h:PagesO w B A c qs) (hf:Fr (TM T M) w w') (hT:w.heap.size<=T) (hM:w.heap.size<=M):PagesO w' B A c qs:=by
 have no:∀ k,k<w.heap.size->¬ TM T M k:=fun k hk h=>by rcases h with rfl | rfl <;> omega
 exact ⟨own_frN h.row hf (fun ad e=>no _ (own_ltN h.row ad e)),fun q hq=>own_frN (h.each q hq) hf (fun ad e=>no _ (own_ltN (h.each q hq) ad e)),h.long⟩
theorem ImgsAt.lo {w:World} {B B':Nat} {I:List Im} {A:Option Addr} {c:Nat} (h:ImgsAt B w I A c) (hB:B'<=B):ImgsAt B' w I A c:=⟨own_le h.row hB,fun x hx=>⟨own_le (h.each x hx).1 hB,(h.each x hx).2⟩⟩
theorem changes_len {t:PT} (h:t.OK):(changesT t).length<=600:=by
 have h1:=nodup_bound 512 ((changesT t).map (·.1)) (changesT_nodup h) (fun x hx=>by
  obtain ⟨y,hy,rfl⟩:=List.mem_map.1 hx;have:=changesT_keys h y hy;have:=h.head
  omega)
 rw [List.length_map] at h1;omega
theorem OwnB.drewN {w:World} {B c:Nat} {A:Option Addr} {b:List UInt8} (h:OwnB w B A c b) (n:Nat):OwnB (w.drewN n) B A c b:=h.below (below_drewN (bR _ _) n)
def TrueR (w:World) (e:Ending) (w':World):Prop:=e=.returned (.bool true)/\Below w.heap.size w w'
theorem poolBack_any {w:World} {A1 A2:Option Addr} {c1 c2:Nat} {L1 L2:List DX} (lsn:Nat) (hl:lsn<18446744073709551616) (h1:DeedsAt w A1 L1) (h2:DeedsAt w A2 L2) (n1:L1.length<=9223372036854775807) (n2:L2.length<=9223372036854775807) (hg:GlobAt w) (ht:PowAt w) :
 Calls Tryz.prog 6 #[.int .u64 (lsn:Nat),.slice A1 L1.length c1,.slice A2 L2.length c2] w fun e w'=>TrueR w e w':=by
 have hS1:=smallB_any (c:=c1) h1 n1;have hS2:=smallB_any (c:=c2) h2 n2;have hLv:=live_any w hg ht;have h1lt:=pow_lt ht;have hFr:=Fresh_any lsn hl w;have H1:=lH h1;have H2:=lH h2;clear h1 h2;go_enter Tryz.func6,Tryz.ntmps6
 go_wp2_with (first
  | (go_at_call 21;refine hS1.mono ?_))
 rintro e w2 ⟨⟨q1,rfl,hq1⟩,rfl⟩
 cases q1 with
 | false =>
  go_wp2_with (first
   | (go_at_call 18;refine hLv.mono ?_;rintro e w2 ⟨rfl,hb2⟩))
  go_ret;exact ⟨rfl,hb2⟩
 | true =>
  have HQ1:=lH (hq1 rfl);clear hq1
  go_wp2_with (first
   | (go_at_call 21;refine hS2.mono ?_))
  rintro e w2 ⟨⟨q2,rfl,hq2⟩,rfl⟩
  cases q2 with
  | false =>
   go_wp2_with (first
    | (go_at_call 18;refine hLv.mono ?_;rintro e w2 ⟨rfl,hb2⟩))
   go_ret;exact ⟨rfl,hb2⟩
  | true =>
   have HQ2:=lH (hq2 rfl);clear hq2
   go_wp2_with (first
    | (go_at_call 12;refine hFr.mono ?_))
   rintro e w3 ⟨T,M,rfl,hT3,hb3⟩
   have hL3:LoopT w2 w3 T M (freshT lsn):=⟨hT3.cut,freshT_ok hl,fun _=>rfl⟩
   clear hT3 hFr;go_wp2
   go_loopw [8] (fun i wr=>∃ (k:Nat) (t:PT),i=.int .i64 k/\k<=L1.length/\LoopT w2 wr T M t/\t.changed=true/\Below w2.heap.size w2 wr) (fun i _=>L1.length-(intOf i).toNat)
   case atStart=>exact ⟨0,freshT lsn,rfl,zL _,hL3,rfl,hb3⟩
   case round =>
    clear hL3 hb3;obtain ⟨k,t,rfl,hk,hL,hch,hb⟩:=hrel
    obtain ⟨wo,rfl⟩:∃ wo,wo=wr:=⟨wr,rfl⟩
    by_cases hlt:k<L1.length
    ·have d1:decide (k<L1.length)=true:=dT hlt;have d2:decide ((k:Int)<(L1.length:Int))=true:=dT (by omega)
     obtain ⟨d,hd⟩:∃ d,L1[k]?=some d:=⟨_,gE hlt⟩
     have hdm:=mG hd;have hAt:=H1.out.below hb;have hea:=hAt.each d hdm;obtain ⟨g,o,rfl,hgl,hc⟩:=hAt.row.resolve_left (fun e=>by rw [e] at hlt;exact absurd hlt (Nat.not_lt_zero _));have hcw:=hc k d hd;have k0:wo.cell? ⟨g,o+k*12,none⟩=some (.int .i64 d.kd):=hcw 0 _ rfl;have k1:wo.cell? ⟨g,o+k*12+1,none⟩=some (.int .u32 (d.n:Nat)):=hcw 1 _ rfl;have k2:wo.cell? ⟨g,o+k*12+2,none⟩=some (.int .i64 d.b):=hcw 2 _ rfl;have k3:wo.cell? ⟨g,o+k*12+3,none⟩=some (.int .i64 d.y.kind):=hcw 3 _ rfl;have k4:wo.cell? ⟨g,o+k*12+4,none⟩=some (.int .u64 (d.y.lsn:Nat)):=hcw 4 _ rfl;have k5:wo.cell? ⟨g,o+k*12+5,none⟩=some (.slice d.y.ca d.y.l.length d.y.cc):=hcw 5 _ rfl;have k6:wo.cell? ⟨g,o+k*12+6,none⟩=some (.int .u32 (d.y.next:Nat)):=hcw 6 _ rfl;have k7:wo.cell? ⟨g,o+k*12+7,none⟩=some (.slice d.y.da d.y.data.length d.y.dc):=hcw 7 _ rfl;have k8:wo.cell? ⟨g,o+k*12+8,none⟩=some (.int .u32 (d.y.root:Nat)):=hcw 8 _ rfl;have k9:wo.cell? ⟨g,o+k*12+9,none⟩=some (.int .u32 (d.y.pages:Nat)):=hcw 9 _ rfl;have k10:wo.cell? ⟨g,o+k*12+10,none⟩=some (.int .u32 (d.y.free:Nat)):=hcw 10 _ rfl;have k11:wo.cell? ⟨g,o+k*12+11,none⟩=some (.int .u64 (d.y.entries:Nat)):=hcw 11 _ rfl
     have i0:(0:Int)<=(k:Int):=by omega
     have i1:(k:Int)<(L1.length:Int):=by omega
     have hD:=do_any hL.tx hL.ok (fun j hj=>⟨by have:=hj.1;omega,hj.2⟩) d (deedOK hea.1 hea.2.1 hea.2.2 (HQ1.out.2 d hdm)) (globBelow hg hb) (powBelow ht hb);unfold DX.val DX.arr at hD;have HD:=lH hD;have HLT:=lH (aI hL hch);clear hcw hc hAt hD hL hch hea hd
     go_wp2_with (first
      | (go_at_call 22;refine HD.out.mono ?_))
     rintro e w4 ⟨⟨q,rfl⟩,hT4,hf4⟩;have htwo:=HLT.out.1.tx.two;have hb4:Below w2.heap.size w2 w4:=hb.trans (hf4.below hb.size (fun j hj=>by rcases hj with rfl | rfl;exact htwo.1.1;exact htwo.2.1));have hT4':TX (fun k=>w2.heap.size<=k) w4 T M (doT t d):=hT4.mono fun j hj=>hj.elim (fun h=>h.1) (fun h=>nT hb.size h)
     have hL4:LoopT w2 w4 T M (doT t d):=⟨hT4'.cut,doT_ok HLT.out.1.ok d,doT_told HLT.out.1.told d⟩
     have hch4:=doT_changed HLT.out.2 d;clear hT4 hT4';go_wp2
     go_roundw
     case rel=>exact ⟨k+1,doT t d,by go_num,by omega,hL4,hch4,hb4⟩
     case measure=>simp [intOf];omega
    ·have d1:decide (k<L1.length)=false:=dF hlt;have d2:decide ((k:Int)<(L1.length:Int))=false:=dF (by omega);have hC:=Changes_any2 hL.tx hL.ok;have hkeys:=changesT_keys hL.ok;have hhd:=hL.ok.head;have HLT:=lH (aI hL hch)
     go_wp2_with (first
      | (go_at_call 24;refine hC.mono ?_))
     rintro e w4 ⟨I,AI,cI,rfl,hI,hIm,hb4⟩
     have hO:=Over_any (B:=wo.heap.size) (Ap:=none) (cp:=0) (ps:=[]) w4 hb4.size ⟨World.ownsRow_nil _ _ _ _,fun q hq=>absurd hq (List.not_mem_nil),fun q hq=>absurd hq (List.not_mem_nil)⟩ hI (fun x hx=>by
      have:=hkeys x.nb (by rw [<-hIm];exact List.mem_map.2 ⟨x,hx,rfl⟩);have:x.n<t.pages:=this
      omega) (zL _) (by
      have:=congrArg List.length hIm;rw [List.length_map] at this;have h9:(changesT t).length<=600:=changes_len hL.ok
      omega)
     rw [hIm] at hO;simp only [List.map_nil] at hO;simp only [List.length_nil] at hO;clear hI hIm hkeys hC
     go_wp2_with (first
      | (go_at_call 23;refine hO.mono ?_))
     rintro e w5 ⟨qs,Aq,cq,rfl,hQ,hqm,hqf,hb5⟩;have hb45:=hb4.trans (hb5.mono hb4.size);have hbw5:=hb.trans (hb45.mono hb.size);have hBg:=begin_over hL.ok hch [] lsn hl
     have hSrc:=(PagesO.src (w0:=wo) hQ hqf)
     have hBe:=Begin_all lsn w5 hSrc (globBelow hg hbw5) (powBelow ht hbw5);rw [hqm,hBg.1] at hBe;have HB:=lH (aI hBg (aI hqm hqf));clear hBg hO hqm hSrc
     go_wp2_with (first
      | (go_at_call 25;refine hBe.mono ?_))
     rintro e w6 ⟨⟨U,MU,rfl,hTU,hU1,hU2⟩,hb6⟩;have hbw6:=hbw5.trans (hb6.mono hbw5.size);have hLw:Below wo.heap.size wo w6:=hb45.trans (hb6.mono hb45.size);have hTt:TX _ w6 T M t:=HLT.out.1.tx.keep (KeepX.of_below hLw);have hH1:=fun (W:World) (hW:Below w6.heap.size w6 W)=>Head_any (hTt.keep ⟨hW.size,fun j hj _=>hW.block j (lT hj.2 hLw.size)⟩);have hTU':TX (fun k=>w2.heap.size<=k) w6 U MU ⟨overL [] (changesT t),lsn,t.root,t.pages,t.free,t.entries,[],false⟩:=hTU.mono fun j hj=>hj.elim (fun h=>nT hb.size h) (fun h=>nT hbw5.size h);have hH2:=fun (W:World) (hW:Below w6.heap.size w6 W)=>Head_any (hTU'.keep (KeepX.of_below hW));have hCN:=fun (W:World) (hW:Below w6.heap.size w6 W)=>Changes_not (hTU'.keep (KeepX.of_below hW)) rfl;have HH1:=lH hH1;have HH2:=lH hH2;have HCN:=lH hCN;clear hH1 hH2 hCN hBe hTU;unfold headV at HH1 HH2;dsimp only at HH2
     go_wp2_with (first
      | (go_at_call 15;refine (HH1.out _ hb7).mono ?_;rintro e w8 ⟨rfl,hb8'⟩;have hb8:=hb7.trans (hb8'.mono hb7.size))
      | (go_at_call 15;refine (HH2.out _ (bR _ _)).mono ?_;rintro e w7 ⟨rfl,hb7⟩)
      | (go_at_call 24;refine (HCN.out _ hb8).mono ?_;rintro e w9 ⟨rfl,h9⟩;have h9:=h9.symm;subst h9))
     have hbw8:=hbw6.trans (hb8.mono hbw6.size);have hf58:Fr (TM U MU) w5 w8:=Fr.of_below (hb6.trans (hb8.mono hb6.size));have hTU8:=(hTU'.keep (KeepX.of_below hb8)).cut
     have hL8:LoopT w2 w8 U MU ⟨overL [] (changesT t),lsn,t.root,t.pages,t.free,t.entries,[],false⟩:=⟨hTU8,HB.out.1.2.1,HB.out.1.2.2⟩
     clear hTU' hTU8 HH1 HH2 HCN hTt
     go_loopw [12] (fun i wr=>∃ (k:Nat) (u:PT),i=.int .i64 k/\k<=L2.length/\LoopT w2 wr U MU u/\u.src=overL [] (changesT t)/\Fr (TM U MU) w5 wr/\Below w2.heap.size w2 wr) (fun i _=>L2.length-(intOf i).toNat)
     case atStart=>exact ⟨0,_,rfl,zL _,hL8,rfl,hf58,hbw8⟩
     case round =>
      clear hL8 hf58;obtain ⟨i,u,rfl,hi,hU,hus,hfu,hbi⟩:=hrel
      obtain ⟨wi,rfl⟩:∃ wi,wi=wr:=⟨wr,rfl⟩
      by_cases hlt2:i<L2.length
      ·have d3:decide (i<L2.length)=true:=dT hlt2;have d4:decide ((i:Int)<(L2.length:Int))=true:=dT (by omega)
       obtain ⟨d,hd⟩:∃ d,L2[i]?=some d:=⟨_,gE hlt2⟩
       have hdm:=mG hd;have hAt:=H2.out.below hbi;have hea:=hAt.each d hdm;obtain ⟨g,o,rfl,hgl,hc⟩:=hAt.row.resolve_left (fun e=>by rw [e] at hlt2;exact absurd hlt2 (Nat.not_lt_zero _));have hcw:=hc i d hd;have k0:wi.cell? ⟨g,o+i*12,none⟩=some (.int .i64 d.kd):=hcw 0 _ rfl;have k1:wi.cell? ⟨g,o+i*12+1,none⟩=some (.int .u32 (d.n:Nat)):=hcw 1 _ rfl;have k2:wi.cell? ⟨g,o+i*12+2,none⟩=some (.int .i64 d.b):=hcw 2 _ rfl;have k3:wi.cell? ⟨g,o+i*12+3,none⟩=some (.int .i64 d.y.kind):=hcw 3 _ rfl;have k4:wi.cell? ⟨g,o+i*12+4,none⟩=some (.int .u64 (d.y.lsn:Nat)):=hcw 4 _ rfl;have k5:wi.cell? ⟨g,o+i*12+5,none⟩=some (.slice d.y.ca d.y.l.length d.y.cc):=hcw 5 _ rfl;have k6:wi.cell? ⟨g,o+i*12+6,none⟩=some (.int .u32 (d.y.next:Nat)):=hcw 6 _ rfl;have k7:wi.cell? ⟨g,o+i*12+7,none⟩=some (.slice d.y.da d.y.data.length d.y.dc):=hcw 7 _ rfl;have k8:wi.cell? ⟨g,o+i*12+8,none⟩=some (.int .u32 (d.y.root:Nat)):=hcw 8 _ rfl;have k9:wi.cell? ⟨g,o+i*12+9,none⟩=some (.int .u32 (d.y.pages:Nat)):=hcw 9 _ rfl;have k10:wi.cell? ⟨g,o+i*12+10,none⟩=some (.int .u32 (d.y.free:Nat)):=hcw 10 _ rfl;have k11:wi.cell? ⟨g,o+i*12+11,none⟩=some (.int .u64 (d.y.entries:Nat)):=hcw 11 _ rfl
       have i0:(0:Int)<=(i:Int):=by omega
       have i1:(i:Int)<(L2.length:Int):=by omega
       have hD:=do_any hU.tx hU.ok (fun j hj=>⟨by have:=hj.1;omega,hj.2⟩) d (deedOK hea.1 hea.2.1 hea.2.2 (HQ2.out.2 d hdm)) (globBelow hg hbi) (powBelow ht hbi);unfold DX.val DX.arr at hD;have HD:=lH hD;have HUT:=lH (aI hU hus);clear hcw hc hAt hD hU hus hea hd
       go_wp2_with (first
        | (go_at_call 22;refine HD.out.mono ?_))
       rintro e w10 ⟨⟨q,rfl⟩,hT10,hf10⟩;have htwo:=HUT.out.1.tx.two;have hb10:Below w2.heap.size w2 w10:=hbi.trans (hf10.below hbi.size (fun j hj=>by rcases hj with rfl | rfl;exact htwo.1.1;exact htwo.2.1));have hT10':TX (fun k=>w2.heap.size<=k) w10 U MU (doT u d):=hT10.mono fun j hj=>hj.elim (fun h=>h.1) (fun h=>nT hbi.size h)
       have hL10:LoopT w2 w10 U MU (doT u d):=⟨hT10'.cut,doT_ok HUT.out.1.ok d,doT_told HUT.out.1.told d⟩
       have hs10:(doT u d).src=overL [] (changesT t):=(doT_src u d).trans HUT.out.2;have hf10':=hfu.trans hf10;clear hT10 hT10';go_wp2
       go_roundw
       case rel=>exact ⟨i+1,doT u d,by go_num,by omega,hL10,hs10,hf10',hb10⟩
       case measure=>simp [intOf];omega
      ·have d3:decide (i<L2.length)=false:=dF hlt2;have d4:decide ((i:Int)<(L2.length:Int))=false:=dF (by omega);have hQi:=hQ.fr hfu hU1 hU2;have hC:=Changes_any2 hU.tx hU.ok;have hkeys:=changesT_keys hU.ok;have hhu:=hU.ok.head;have HUT:=lH (aI hU hus);clear hU hus
       go_wp2_with (first
        | (go_at_call 24;refine hC.mono ?_))
       rintro e w11 ⟨J,AJ,cJ,rfl,hJ,hJm,hb11⟩
       have hO:=Over_any (B:=wo.heap.size) w11 (by have:=hb45.size;have:=hfu.size;have:=hb11.size;omega) (hQi.below hb11) (hJ.lo (by have:=hb45.size;have:=hfu.size;omega)) (fun x hx=>by
        have:=hkeys x.nb (by rw [<-hJm];exact List.mem_map.2 ⟨x,hx,rfl⟩);have:x.n<u.pages:=this
        omega) HB.out.2.2 (by
        have:=congrArg List.length hJm;rw [List.length_map] at this;have h9:(changesT u).length<=600:=changes_len HUT.out.1.ok
        omega)
       rw [hJm,HB.out.2.1] at hO;clear hJ hJm hkeys hC
       go_wp2_with (first
        | (go_at_call 23;refine hO.mono ?_))
       rintro e w12 ⟨rs,Ar,cr,rfl,hR,hrm,hrf,hb12⟩;have hlw:rs.length % 4294967296=rs.length:=Nat.mod_eq_of_lt (by omega)
       have u9:IntKind.u32.wrap (rs.length:Int)=(rs.length:Int):=by rw [IntKind.wrap_u32];omega
       have hrr:Reads w12 w12.heap.size 1 Ar rs.length (rs.map Pt.val):=Reads.of_own hR.row
       have hov:∀ n b,pageT u n=.ok b->(rs.map Pt.b)[n]?=some b:=fun n b hp=>by
        have h9:=page_over HUT.out.1.ok HUT.out.1.told hp;rw [HUT.out.2] at h9;rw [hrm];exact h9
       have hbw12:=hbi.trans ((hb11.trans (hb12.mono hb11.size)).mono hbi.size);have hb1112:=hb11.trans (hb12.mono hb11.size);have HR:=lH (aI hR (aI hov hrr));clear hR hov hrr hrm hO;go_wp2
       go_loopw [13] (fun i wr=>∃ n:Nat,i=.int .u32 n/\n<=rs.length/\Below w12.heap.size w12 wr) (fun i _=>rs.length-(intOf i).toNat)
       case atStart=>exact ⟨0,rfl,zL _,bR _ _⟩
       case round =>
        obtain ⟨n,rfl,hn,hbn⟩:=hrel
        obtain ⟨wn,rfl⟩:∃ wn,wn=wr:=⟨wr,rfl⟩
        have hbwn:=hbw12.trans (hbn.mono hbw12.size);have hLv:=live_any wn (globBelow hg hbwn) (powBelow ht hbwn);by_cases c1:n<rs.length
        ·have d5:decide (n<rs.length)=true:=dT c1;have d6:decide ((n:Int)<(rs.length:Int))=true:=dT (by omega);by_cases c2:n<24
         ·have d7:decide (n<24)=true:=dT c2;have d8:decide ((n:Int)<24)=true:=dT (by omega)
          obtain ⟨q,hq⟩:∃ q,rs[n]?=some q:=⟨_,gE c1⟩
          have hqm:=mG hq;obtain ⟨g,rfl,hgl,hcs⟩:=HR.out.2.2.2 (by omega);have kq:w12.cell? (g.add n)=some q.val:=hcs n q.val (by rw [List.getElem?_map,hq];rfl);unfold Pt.val at kq;have kn:wn.cell? (g.add n)=some (.slice q.A q.b.length q.c):=(hbn.cell (by rw [block_of_add];exact hgl)).trans kq;have hkk:∀ W,Below wn.heap.size wn W->W.cell? (g.add n)=some (.slice q.A q.b.length q.c):=fun W hW=>(hW.cell (by rw [block_of_add];have:=hbn.size;omega)).trans kn;have hTn:TX _ wn U MU u:=HUT.out.1.tx.keep (KeepX.of_below (hb1112.trans (hbn.mono hb1112.size)));have hP:=Page_all hTn HUT.out.1.ok n (by omega) (globBelow hg hbwn) (powBelow ht hbwn);have hcv:∀ W,Below wn.heap.size wn W->(convert 23 9 (.slice q.A q.b.length q.c)).run Tryz.prog W=.ok (.string ⟨q.b.toArray⟩) W:=fun W hW=>conv_reads q.c ((((HR.out.1.each q hqm).below hbn).below hW).rd);have HP:=lH (aI hP (aI hkk hcv))
          have i4:(0:Int)<=(n:Int):=by omega
          have i5:(n:Int)<(rs.length:Int):=by omega
          have u8:IntKind.u64.wrap (n:Int)=(n:Int):=by rw [IntKind.wrap_u64];omega
          have u7:IntKind.u32.wrap ((n:Int)+1)=(n:Int)+1:=by rw [IntKind.wrap_u32];omega
          clear hP hkk hcv hTn kn kq hcs
          cases hpt:pageT u n with
          | error z =>
           have hz:z=7:=by
            unfold pageT at hpt
            split at hpt
            ·cases hpt;rfl
            ·split at hpt
             ·cases hpt
             ·split at hpt
              ·cases hpt
              ·split at hpt
               ·cases hpt
               ·cases hpt;rfl
           subst hz
           have h7:codeR (pageT u n)=7:=by rw [hpt];rfl
           go_wp2_with (first
            | (go_at_call 26;refine HP.out.1.mono ?_;rintro e w13 ⟨A',c',v,b,rfl,hob,hv,hok,herr,hb13⟩;rw [h7] at hv;obtain ⟨r,rfl,hr⟩:∃ r,v=.iface 134 (.pointer (some ⟨r,0,none⟩))/\w13=w13:=by (rcases hv with ⟨h,_⟩ | ⟨_,r,e,_⟩;exact absurd h (by decide);exact ⟨r,e,rfl⟩)))
           go_quiet (fail)
           go_wp2
           go_roundw
           case rel=>exact ⟨n+1,by go_num,by omega,hbn.trans (below_drewN (hb13.mono hbn.size) nq)⟩
           case measure=>simp [intOf];omega
          | ok b0 =>
           have hbq:q.b=b0:=by
            have h9:=HR.out.2.1 n b0 hpt;rw [List.getElem?_map,hq] at h9;exact Option.some.inj h9
           subst hbq
           have h0:codeR (pageT u n)=0:=by rw [hpt];rfl
           go_wp2_with (first
            | (go_at_call 26;refine HP.out.1.mono ?_;rintro e w13 ⟨A',c',v,b,rfl,hob,hv,hok,herr,hb13⟩;rw [h0] at hv;obtain ⟨rfl,_⟩:v=.nilIface/\w13=w13:=(by (rcases hv with ⟨_,h⟩ | ⟨h,_⟩;exact ⟨h,rfl⟩;exact absurd rfl h));have hbb:=hok _ hpt;subst hbb;have k1:∀ m,(convert 23 9 (.slice A' q.b.length c')).run Tryz.prog (w13.drewN m)=.ok (.string ⟨q.b.toArray⟩) (w13.drewN m):=fun m=>conv_reads c' (hob.drewN m).rd;have k2:=fun m=>HP.out.2.2 (w13.drewN m) (below_drewN hb13 m);have k3:=fun m=>HP.out.2.1 (w13.drewN m) (below_drewN hb13 m)))
           go_quiet (fail)
           go_wp2
           go_roundw
           case rel=>exact ⟨n+1,by go_num,by omega,hbn.trans (below_drewN (hb13.mono hbn.size) nq)⟩
           case measure=>simp [intOf];omega
         ·have d7:decide (n<24)=false:=dF c2;have d8:decide ((n:Int)<24)=false:=dF (by omega)
          go_wp2_with (first
           | (go_at_call 18;refine hLv.mono ?_;rintro e w13 ⟨rfl,hb13⟩))
          go_ret;exact ⟨rfl,hbwn.trans (hb13.mono hbwn.size)⟩
        ·have d5:decide (n<rs.length)=false:=dF c1;have d6:decide ((n:Int)<(rs.length:Int))=false:=dF (by omega)
         go_wp2_with (first
          | (go_at_call 18;refine hLv.mono ?_;rintro e w13 ⟨rfl,hb13⟩))
         go_ret;exact ⟨rfl,hbwn.trans (hb13.mono hbwn.size)⟩
end
section
open Go.ChangeShapes Go.WideShapes Go.ChangeAt Go.RowKit Go.Joins Go.Deep
section
variable {H:Type} {enc:TypeId × Value->H} {w:World} {base:Nat} {held:Bool}
theorem deeds_in {fuel:Nat} {v:Value} {y:DataW H × List MemPlace} (h:DataW.trod enc Tryz.prog w base (fun _=>true) held fuel 55 [v]=some y) :
 ∃ (A:Option Addr) (c:Nat) (L:List DX),v=.slice A L.length c/\DeedsAt w A L/\L.length<=9223372036854775807:=by
 rcases open_slice Tryz.underlying55 h with ⟨hcs,_⟩ | ⟨a,len,cap,m,n,D,Pl,hcs,_,hl,hm,hmm,_,hf⟩
 ·simp only [List.cons.injEq,and_true] at hcs;exact ⟨none,0,[],hcs,⟨.inl rfl,fun x hx=>(by cases hx)⟩,zL _⟩
 ·simp only [List.cons.injEq,and_true] at hcs;simp only [if_true] at hmm;subst hmm
  have hce:Program.cellsOf Tryz.prog 59=12:=by kernel_rfl
  obtain ⟨ds,hdl,hd⟩:=list_of (P:=fun i (x:DX)=>(∀ j u,x.arr[j]?=some u->w.cell? ((a.add (i*12)).add j)=some u)/\NodeIn w x.y/\x.n<4294967296/\(-9223372036854775808<=x.b/\x.b<=9223372036854775807)) len (fun i hi=>by
   obtain ⟨cs',hc,ht⟩:=hf i (by omega);rw [hce] at hc;obtain ⟨_,hcl,hat⟩:=World.cells?_some hc;obtain ⟨kd,nn,b,y,rfl,hin,hn,_,hb⟩:=deed_in ht;refine ⟨⟨kd,nn,b,y⟩,fun j u hu=>?_,hin,hn,hb⟩;have hj:=(aS.1 hu).1;have h5:(DX.arr ⟨kd,nn,b,y⟩).size=12:=rfl;rw [hat j (by omega),<-hu];show _=(DX.arr ⟨kd,nn,b,y⟩)[j]?;rw [<-Array.getElem?_toList]
   rfl)
  refine ⟨some a,_,ds,by rw [hcs,hdl],⟨?_,fun x hx=>by
   obtain ⟨i,hi⟩:=List.getElem?_of_mem hx
   exact (hd i x hi).2⟩,by rw [hdl];simp only [maxLen] at hm;omega⟩
  cases hds:ds with
  | nil=>exact .inl rfl
  | cons x0 r =>
   right;rw [<-hds]
   have hx0:ds[0]?=some x0:=by rw [hds];rfl
   have c0:=(hd 0 x0 hx0).1 0 _ rfl
   have e0:(a.add (0*12)).add 0=a:=by simp [Addr.add]
   rw [e0] at c0;have hsp:=World.cell?_spot c0;have hbl:=World.block_lt_of_cell? w _ c0;obtain ⟨g,o,sp⟩:=a;have hsp:sp=none:=hsp;subst hsp;refine ⟨g,o,rfl,hbl,fun k x hx j u hu=>?_⟩;have:=(hd k x hx).1 j u hu
   have e1:((⟨g,o,none⟩:Addr).add (k*12)).add j=⟨g,o+k*12+j,none⟩:=by
    unfold Addr.add
    split <;> split <;> simp_all
   rw [e1] at this;exact this
end
end
end Go.Proofs.YtenfkghoolegfaaGreatDoor
