/- A part of the proof of PoolBack. No condition of its own. -/
import Derived.Test.YtenfkghoolegfaaGreatDoorVz
import Derived.Test.YtenfkghoolegfaaGreatDoorVh
import Derived.Test.YtenfkghoolegfaaGreatDoorVf
import Derived.Test.YtenfkghoolegfaaGreatDoorVd
import Derived.RangeFuncWrites
import Derived.Shelf.Strconv.Itoa0
import Derived.Shelf.Strconv.Itoa1
import Derived.Shelf.LaysM
import Derived.Shelf.Strconv.Itoa2
import Derived.Test.YtenfkghoolegfaaGreatDoorProg
import Derived.Lib.Walk
import Derived.Lib.ItoaMem
import Derived.Lib.AppendIntMem
import Derived.WalkKit
import Derived.BigCall
import Derived.BigGuard
import Derived.Maps.Keyed
import Derived.RangeFuncSeq
import Derived.RangeFuncGives
import Derived.RangeFuncOwn
import Derived.RangeFuncKeeps
import Derived.RangeFuncFrom
import Derived.Sort.MapsRangeIn
import Derived.Sort.KeysCollected
import Derived.OwnWalkIn
import Derived.TacticsInMore
import Derived.RegionIn
import Derived.LoopNIn
import Derived.LoopIn
import Derived.Shelf.AbstractIn
set_option maxHeartbeats 6400000
set_option maxRecDepth 1000000
set_option linter.unusedVariables false
namespace Go.Proofs.YtenfkghoolegfaaGreatDoor
section
open Go.RowKit
theorem GetLeaf_val {B:Nat} (A:Option Addr) (c:Nat) (b:List UInt8) (w:World) (hB:B<=w.heap.size) (hr:Reads w B 1 A b.length (bl b)) (hc:b.length<=c) (hl:b.length<=1000) {n0:UInt8} {r:List UInt8} (hbb:n0::r=b) (her:(getN (r.drop n0.toNat)).2.2=0) (hv:(getN (r.drop n0.toNat)).1<=1000) (h40:(getN (r.drop n0.toNat)).1<=40) :
 Calls Tryz.prog 171 #[.slice A b.length c] w fun e w'=>CellR (leafG b) w.heap.size e w'/\Below w.heap.size w w':=by
 obtain ⟨w0,hw0⟩:∃ w0,w0=w.alloc (.cells #[.slice none 0 0,.int .i64 0,.slice none 0 0,.int .u32 0,.int .u32 0] 113):=⟨_,rfl⟩
 have hb0:Below w.heap.size w w0:=by rw [hw0];exact (bR _ w).alloc (nR _) _
 have hZ0:Blk w0 w.heap.size 113 #[.slice none 0 0,.int .i64 0,.slice none 0 0,.int .u32 0,.int .u32 0]:=by rw [hw0];exact Blk.new _ _ _
 have hCu:=cutter_any A b.length c w0
 obtain ⟨w1,hw1⟩:∃ w1,w1=w0.alloc (.cells #[.slice A b.length c] 23):=⟨_,rfl⟩
 have hb1:Below w0.heap.size w0 w1:=by rw [hw1];exact (bR _ w0).alloc (nR _) _
 have hK1:Blk w1 w0.heap.size 23 #[.slice A b.length c]:=by rw [hw1];exact Blk.new _ _ _
 rw [<-hw1] at hCu
 obtain ⟨g,HG⟩:∃ g,Hid (w0.heap.size=g):=⟨_,lH rfl⟩
 rw [HG.out] at hCu hK1;have hb01:Below w.heap.size w w1:=hb0.trans (hb1.mono hb0.size)
 have hg0:w.heap.size<=g:=by have:=HG.out;have:=hb0.size;omega
 have hBg:B<=g:=nT hB hg0;have hC1:=cut_let hK1 (hr.below (hb01.mono hB)) hc hl 1 (by omega) hBg;unfold closC at hCu;have HG0:Hid (w0.heap.size=w.heap.size+1):=lH (by rw [hw0];simp);have HW0:=lH hw0;clear hw0 hw1;have HB:=lH hbb;clear hbb
 have hb1':0<b.length:=by rw [<-HB.out];simp
 obtain ⟨a,rfl,ha0,_⟩:=hr.2 hb1';have h8:=n0.toNat_lt
 have cw8:IntKind.i64.wrap (n0.toNat:Int)=(n0.toNat:Int):=by rw [IntKind.wrap_i64];omega
 have cw9:IntKind.i64.wrap (1+(n0.toNat:Int))=1+(n0.toNat:Int):=by rw [IntKind.wrap_i64];omega
 obtain ⟨k,HKm⟩:∃ k,Hid (min (1+n0.toNat) b.length=k):=⟨_,lH rfl⟩
 have kle:k<=b.length:=by rw [<-HKm.out];omega
 have mI:min (1+(n0.toNat:Int)) (b.length:Int)=(k:Int):=by rw [<-HKm.out];omega
 have mI2:(if 1+(n0.toNat:Int)<=(b.length:Int) then 1+(n0.toNat:Int) else (b.length:Int))=(k:Int):=by rw [<-HKm.out];split <;> omega
 have mI3:(if (b.length:Int)<1+(n0.toNat:Int) then (b.length:Int) else 1+(n0.toNat:Int))=(k:Int):=by rw [<-HKm.out];split <;> omega
 have k1:(k:Int)<=(b.length:Int):=by omega
 have k2:(b.length:Int)<=(c:Int):=by omega
 have k3:¬ (k:Int)<0:=by omega
 have k4:(k:Int)<=(c:Int):=by omega
 obtain ⟨D,HD⟩:∃ D,Hid (r.drop n0.toNat=D):=⟨_,lH rfl⟩
 have hDl:b.length-k=D.length:=by rw [<-HD.out,<-HKm.out,lD,<-HB.out,List.length_cons];omega
 obtain ⟨a2,ha2,hDR⟩:∃ a2,(if c=k then some a else some (a.add k))=some a2/\Reads w B 1 (some a2) D.length (bl D):=by
  by_cases hd0:D.length=0
  ·refine ⟨if c=k then a else a.add k,by split <;> rfl,by rw [bl_len,hd0],fun h=>absurd h (by omega)⟩
  ·refine ⟨a.add k,by rw [if_neg (by omega)],?_⟩
   have e:D=b.drop k:=by rw [<-HD.out,<-HB.out,show k=n0.toNat+1 by have:=HKm.out;omega];rfl
   rw [e,lD];exact reads_drop hr (by omega)
 have HDR:=lH hDR;clear hDR
 obtain ⟨v,HV1⟩:∃ v,Hid ((getN D).1=v):=⟨_,lH rfl⟩
 obtain ⟨wd,HV2⟩:∃ v,Hid ((getN D).2.1=v):=⟨_,lH rfl⟩
 obtain ⟨er,HV3⟩:∃ v,Hid ((getN D).2.2=v):=⟨_,lH rfl⟩
 have hDl2:D.length<=b.length:=by omega
 have hLR:leafR b=if er≠0\/1000<v then none else some (if v<=40 then ⟨r.take n0.toNat,(v:Nat),D.drop wd,0,0⟩ else ⟨r.take n0.toNat,(v:Nat),[],(if (D.drop wd).length<=8 then numN (D.drop wd) % 4294967296 else 0),0⟩):=by
  rw [<-HB.out,<-HV1.out,<-HV2.out,<-HV3.out,<-HD.out];rfl
 rw [HD.out,HV3.out] at her;rw [HD.out,HV1.out] at hv h40
 have e1:(er != 0)=false:=by rw [her];rfl
 have e2:decide (1000<(v:Int))=false:=dF (by omega);have e3:decide (1000<v)=false:=dF (by omega)
 have hwdD:wd<=D.length:=by rw [<-HV2.out];exact (putN_getN (HV3.out.trans her)).2.1
 have cv:IntKind.i64.wrap (v:Int)=(v:Int):=by rw [IntKind.wrap_i64];omega
 have e4:decide ((v:Int)<=40)=true:=dT (by omega);have e5:decide (v<=40)=true:=dT h40;go_enter Tryz.func171,Tryz.ntmps171
 go_wp2_with (first
  | (go_at_call 218;refine hC4.mono ?_)
  | (rw [<-HW6.out];go_at_call 205;refine hV.mono ?_;rintro e w7 ⟨rfl,hb7⟩;have R7:=R6.below (hb7.mono (by have:=R6.lt;omega)) R6.lt;have hK7:=hK6.below hb7 hK6.lt;have hr7:=hr6.below (hb7.mono (nT hBg (Nat.le_of_lt hK6.lt)));have hC4:=cut_let hK7 hr7 hc4 (by rw [hrD];omega) wd (by omega) hBg;have HZ7:=lH (HZ6.out.below hb7 HZ6.out.lt);clear R7)
  | (go_at_call 68;refine hCl.mono ?_;rintro e w5 ⟨A6,c6,rfl,ho5,hb5⟩;have c35:=(hb5.cell (lT ha3 (nT hBg (Nat.le_of_lt hK4.lt)))).trans c34;obtain ⟨w6,hw6⟩:∃ w6,w6=w5.alloc (.cells #[.slice A6 kb2.length c6,.int .i64 0,.slice none 0 0,.int .u32 0,.int .u32 0] 113):=⟨_,rfl⟩;have hb6:Below w5.heap.size w5 w6:=(by rw [hw6];exact (bR _ _).alloc (nR _) _);have Z6:Blk w6 w5.heap.size 113 #[.slice A6 kb2.length c6,.int .i64 0,.slice none 0 0,.int .u32 0,.int .u32 0]:=(by rw [hw6];exact Blk.new _ _ _);have hg5:g<w5.heap.size:=(lT hK4.lt hb5.size);have hb56:Below w4.heap.size w4 w6:=(hb5.trans (hb6.mono hb5.size));have c36:(w5.alloc (.cells #[.slice A6 kb2.length c6,.int .i64 0,.slice none 0 0,.int .u32 0,.int .u32 0] 113)).cell? a3=some (.int .u8 (n0.toNat:Nat)):=(by rw [<-hw6];exact (hb6.cell (lT ha3 (nT hBg (Nat.le_of_lt hg5)))).trans c35);have hK6:=hK4.below hb56 hK4.lt;have hr6:=hr4.below (hb56.mono (nT hBg (Nat.le_of_lt hK4.lt)));have ho6:=own_belN ho5 hb6;have HW6:=lH hw6;have HZ6:=lH Z6;have hbg6:Below g w1 w6:=(hb3.trans hb4).trans (hb56.mono (Nat.le_of_lt hK4.lt));have hb0g:Below w0.heap.size w0 w6:=hb1.trans (hbg6.mono (by rw [HG.out];exact nR _));have hbw6:Below w.heap.size w w6:=hb0.trans (hb0g.mono hb0.size);have hV:=VGet_all (some a2) (c-k) D w6 (nT hB hbw6.size) (HDR.out.below (hbw6.mono hB)) (by omega) (by omega);rw [HV1.out,HV2.out,HV3.out] at hV;have R6:=hZ0.below hb0g hZ0.lt;clear hw6 Z6 c35)
  | (go_at_call 218;refine hC3.mono ?_;rintro e w4 ⟨kb2,r2,A5,A7,c7,HP3,rfl,hk4,hc4,hr4,hK4,hb4,hf4⟩;have hrD:r2=D:=(by rw [HP3.out.2,HP1.out.2,<-HD.out,<-HB.out];rfl);have hCl:=BClone_any A5 kb2.length kb2 w4 hk4 (nT hBg (Nat.le_of_lt hK4.lt)) (by rw [HP3.out.1,lK,HP1.out.2,lD];omega);have c34:=(hb4.cell (lT ha3 hBg)).trans c3)
  | (go_at_call 218;refine hC1.mono ?_;rintro e w3 ⟨kb,r0,A1,A2,c2,HP1,rfl,hk3,hc2,hr2,hK3,hb3,hf3⟩;have hkb:kb=[n0]:=(by rw [HP1.out.1,<-HB.out];rfl);have HNB:=lH hkb;have hn0:((kb.length:Int)==0)=false:=(by rw [hkb];rfl);have i2:0<kb.length:=(by rw [hkb];exact Nat.zero_lt_one);have i1:(0:Int)<(kb.length:Int):=(by omega);obtain ⟨a3,rfl,ha3,hc3⟩:=hk3.2 i2;have c3:=hc3 0 (.int .u8 (n0.toNat:Nat)) (by rw [hkb];rfl);rw [show a3.add 0=a3 by unfold Addr.add;rw [if_pos rfl]] at c3;have hC3:=cut_let hK3 hr2 hc2 (by rw [HP1.out.2,lD];omega) n0.toNat (by have:=n0.toNat_lt;omega) hBg;clear hC1 hc3 hkb)
  | (rw [<-HW0.out];go_at_call 204;refine hCu.mono ?_;rintro e w2 ⟨rfl,h2⟩;have h2:=h2.symm;subst h2))
 rintro e w8 ⟨p1,r3,A8,A9,c9,HP4,rfl,_,hc9,hr8,hK8,hb8,hf8⟩;have HZ8:=lH (HZ7.out.fr hf8 (show ¬ w5.heap.size=g by omega));have k81:w8.cell? ⟨w5.heap.size,1,none⟩=some (.int .i64 0):=HZ8.out.cell 1;have f81:=HZ8.out.frozen 1
 obtain ⟨w9,hw9⟩:∃ w9,w9=w8.setCell ⟨w5.heap.size,1,none⟩ (.int .i64 (v:Nat)):=⟨_,rfl⟩
 have HZ9:=lH (show Blk w9 w5.heap.size 113 #[.slice A6 kb2.length c6,.int .i64 (v:Nat),.slice none 0 0,.int .u32 0,.int .u32 0] by rw [hw9];exact HZ8.out.set_ 1 _)
 have hf9:Fr (fun k=>k=w5.heap.size) w8 w9:=(by rw [hw9];exact (Fr.refl (fun k=>k=w5.heap.size) w8).setCell (p:=⟨w5.heap.size,1,none⟩) (.inr rfl) _)
 have hK9:=hK8.fr hf9 (show ¬ g=w5.heap.size by omega);have hr9:=hr8.below (hf9.below (B:=B) (nT hBg (Nat.le_of_lt hK8.lt)) (fun k hk=>by omega));have hC5:=cut_let hK9 hr9 hc9 (by rw [HP4.out.2,hrD,lD];omega) b.length (by omega) hBg;have HW9:=lH hw9;clear hw9
 go_wp2_with (first
  | (rw [<-HW9.out];go_at_call 218;refine hC5.mono ?_))
 rintro e w10 ⟨rs,r4,A10,A11,c11,HP5,rfl,hk10,hc11,hr10,hK10,hb10,hf10⟩
 have hrs:rs=D.drop wd:=(by rw [HP5.out.1,HP4.out.2,hrD,List.take_of_length_le (by rw [lD];omega)])
 have HRS:=lH hrs
 have hrsl:rs.length<=1000:=(by rw [hrs,lD];omega)
 have HZ10:=lH (HZ9.out.fr hf10 (show ¬ w5.heap.size=g by omega));have k101:w10.cell? ⟨w5.heap.size,1,none⟩=some (.int .i64 (v:Nat)):=HZ10.out.cell 1;have hCl2:=BClone_any A10 rs.length rs w10 hk10 (nT hBg (Nat.le_of_lt hK10.lt)) (by omega);have hN2:=Number_all A10 rs.length rs w10 hk10;clear hrs
 go_wp2_with (first
  | (go_at_call 68;refine hCl2.mono ?_))
 rintro e w11 ⟨A12,c12,rfl,ho11,hb11⟩;have hz10:w5.heap.size<w10.heap.size:=HZ10.out.lt;have HZ11:=lH (HZ10.out.below hb11 hz10);have k112:w11.cell? ⟨w5.heap.size,2,none⟩=some (.slice none 0 0):=HZ11.out.cell 2;have f112:=HZ11.out.frozen 2
 obtain ⟨wf,hwf⟩:∃ wf,wf=w11.setCell ⟨w5.heap.size,2,none⟩ (.slice A12 rs.length c12):=⟨_,rfl⟩
 have ZF:Blk wf w5.heap.size 113 #[.slice A6 kb2.length c6,.int .i64 (v:Nat),.slice A12 rs.length c12,.int .u32 0,.int .u32 0]:=by rw [hwf];exact HZ11.out.set_ 2 _
 have hff:Fr (fun k=>k=w5.heap.size) w11 wf:=by rw [hwf];exact (Fr.refl (fun k=>k=w5.heap.size) w11).setCell (p:=⟨w5.heap.size,2,none⟩) (.inr rfl) _
 have HWF:=lH hwf;clear hwf;have hfa:Fr (fun k=>k=g\/k=w5.heap.size) w6 wf:=(Fr.of_below hb7).trans ((hf8.mono fun k _ h=>.inl h).trans ((hf9.mono fun k _ h=>.inr h).trans ((hf10.mono fun k _ h=>.inl h).trans ((Fr.of_below hb11).trans (hff.mono fun k _ h=>.inr h)))))
 have hgw:g=w.heap.size+1:=by rw [<-HG.out];exact HG0.out
 have hkf:OwnB wf (w.heap.size+1) A6 c6 kb2:=own_le (own_frN ho6 hfa (fun ad e h=>by have h1:=own_ge ho5 ad e;have h2:=own_ltN ho5 ad e;have h3:=hK4.lt;omega)) (by have:=hK4.lt;omega);have hvf:OwnB wf (w.heap.size+1) A12 c12 rs:=own_le (own_frN ho11 hff (fun ad e h=>by have h1:=own_ge ho11 ad e;omega)) (by omega);have hbf:Below w.heap.size w wf:=hbw6.trans (hfa.below (B:=w.heap.size) hbw6.size (fun k hk=>by omega));have RF:Blk wf w.heap.size 113 #[.slice none 0 0,.int .i64 0,.slice none 0 0,.int .u32 0,.int .u32 0]:=R6.fr hfa (by intro h;omega);have hrf:=hr.below (hbf.mono hB);have hP:=PutC_any true ⟨A6,c6,A12,c12,⟨kb2,(v:Nat),rs,0,0⟩⟩ wf (nR _) hkf.rd hvf.rd ⟨Nat.zero_lt_succ _,Nat.zero_lt_succ _⟩;unfold CX.val cellV at hP;simp only [cputF,if_true] at hP;have HLR2:Hid (leafR b=some ⟨kb2,(v:Nat),rs,0,0⟩):=lH (by rw [hLR,if_neg (by omega),if_pos (by omega),<-HRS.out];congr 2;rw [HP3.out.1,HP1.out.2,<-HB.out];rfl);have hcoB:cOK true ⟨kb2,(v:Nat),rs,0,0⟩=leafOK ⟨kb2,(v:Nat),rs,0,0⟩:=rfl
 cases hok:cOK true ⟨kb2,(v:Nat),rs,0,0⟩ with
 | false =>
  have hg:leafG b=none:=by unfold leafG;rw [HLR2.out];simp only;rw [if_neg];rw [<-hcoB,hok];simp
  rw [hok] at hP;simp only [Bool.false_eq_true,if_false] at hP
  go_wp2_with (first
   | (go_at_call 170;refine hP.mono ?_;rintro e w9' ⟨A9',n9,c9',rfl,_,hb9'⟩;have R9:=RF.below hb9' RF.lt)
   | (rw [<-HWF.out];refine wpList_load_row rfl 113 _ rfl _ rfl _ _ _ _ ZF Tryz.underlying113 rfl (by kernel_rfl) ?_)
   | (refine wpList_store_row rfl 113 _ _ rfl w.heap.size _ rfl rfl 113 _ R9 (by kernel_rfl) rfl (by simp [Value.oneCell']) ?_))
  refine bodyPost_ret (rT rfl _ _ w.heap.size 113 _ (0,0) _ rfl (setRow_heap _ _ _ _ _ _ R9) Tryz.underlying113 rfl (by kernel_rfl)) rfl ?_;rw [hg];have hb11':=hbf.trans (hb9'.mono hbf.size);exact ⟨rfl,hb11'.trans ((fS _ w.heap.size _).below (B:=w.heap.size) hb11'.size (fun k hk=>by omega))⟩
 | true =>
  rw [hok] at hP;simp only [if_true] at hP
  obtain ⟨xb,HXB⟩:∃ x,Hid (cB true ⟨kb2,(v:Nat),rs,0,0⟩=x):=⟨_,lH rfl⟩
  rw [HXB.out] at hP;have hE:=fun (W:World) (A9:Option Addr) (c9:Nat) (h:Reads W W.heap.size 1 A9 xb.length (bl xb)) (hb:Below wf.heap.size wf W)=>Equal_any c9 c W h (hrf.below (hb.mono (nT hB hbf.size)))
  obtain ⟨q,HQ⟩:∃ q,Hid (decide (xb=b)=q):=⟨_,lH rfl⟩
  rw [HQ.out] at hE
  have hgI:leafG b=if q=true then some ⟨kb2,(v:Nat),rs,0,0⟩ else none:=by
   unfold leafG;rw [HLR2.out,<-HQ.out];simp only;rw [<-hcoB,hok,show leafB ⟨kb2,(v:Nat),rs,0,0⟩=xb from HXB.out];simp
  cases q with
  | false =>
   go_wp2_with (first
    | (go_at_call 116;refine hE9.mono ?_;rintro e w10' ⟨rfl,h10⟩;have h10:=h10.symm;subst h10)
    | (go_at_call 170;refine hP.mono ?_;rintro e w9' ⟨A9',n9,c9',rfl,hn9,hb9'⟩;obtain ⟨rfl,ho9⟩:=hn9 trivial;have R9:=RF.below hb9' RF.lt;have Z9':=ZF.below hb9' ZF.lt;have hE9:=hE w9' A9' c9' (Reads.of_own ho9) hb9')
    | (rw [<-HWF.out];refine wpList_load_row rfl 113 _ rfl _ rfl _ _ _ _ ZF Tryz.underlying113 rfl (by kernel_rfl) ?_)
    | (refine wpList_store_row rfl 113 _ _ rfl w.heap.size _ rfl rfl 113 _ R9 (by kernel_rfl) rfl (by simp [Value.oneCell']) ?_))
   refine bodyPost_ret (rT rfl _ _ w.heap.size 113 _ (0,0) _ rfl (setRow_heap _ _ _ _ _ _ R9) Tryz.underlying113 rfl (by kernel_rfl)) rfl ?_;rw [hgI];have hb11':=hbf.trans (hb9'.mono hbf.size);exact ⟨rfl,hb11'.trans ((fS _ w.heap.size _).below (B:=w.heap.size) hb11'.size (fun k hk=>by omega))⟩
  | true =>
   go_wp2_with (first
    | (go_at_call 116;refine hE9.mono ?_;rintro e w10' ⟨rfl,h10⟩;have h10:=h10.symm;subst h10)
    | (go_at_call 170;refine hP.mono ?_;rintro e w9' ⟨A9',n9,c9',rfl,hn9,hb9'⟩;obtain ⟨rfl,ho9⟩:=hn9 trivial;have R9:=RF.below hb9' RF.lt;have Z9':=ZF.below hb9' ZF.lt;have hE9:=hE w9' A9' c9' (Reads.of_own ho9) hb9')
    | (refine wpList_load_row rfl 113 _ rfl _ rfl _ _ _ _ Z9' Tryz.underlying113 rfl (by kernel_rfl) ?_)
    | (rw [<-HWF.out];refine wpList_load_row rfl 113 _ rfl _ rfl _ _ _ _ ZF Tryz.underlying113 rfl (by kernel_rfl) ?_)
    | (refine wpList_store_row rfl 113 _ _ rfl w.heap.size _ rfl rfl 113 _ R9 (by kernel_rfl) rfl (by simp [Value.oneCell']) ?_))
   refine bodyPost_ret (rT rfl _ _ w.heap.size 113 _ (0,0) _ rfl (setRow_heap _ _ _ _ _ _ R9) Tryz.underlying113 rfl (by kernel_rfl)) rfl ?_;rw [hgI];have hb11':=hbf.trans (hb9'.mono hbf.size);exact ⟨⟨⟨A6,c6,A12,c12,⟨kb2,(v:Nat),rs,0,0⟩⟩,rfl,rfl,((hkf.below hb9').fr (fS _ w.heap.size _) (fun k hk=>by omega)).lo (Nat.le_succ _),((hvf.below hb9').fr (fS _ w.heap.size _) (fun k hk=>by omega)).lo (Nat.le_succ _)⟩,hb11'.trans ((fS _ w.heap.size _).below (B:=w.heap.size) hb11'.size (fun k hk=>by omega))⟩
theorem GetLeaf_over {B:Nat} (A:Option Addr) (c:Nat) (b:List UInt8) (w:World) (hB:B<=w.heap.size) (hr:Reads w B 1 A b.length (bl b)) (hc:b.length<=c) (hl:b.length<=1000) {n0:UInt8} {r:List UInt8} (hbb:n0::r=b) (her:(getN (r.drop n0.toNat)).2.2=0) (hv:(getN (r.drop n0.toNat)).1<=1000) (h40:40<(getN (r.drop n0.toNat)).1) :
 Calls Tryz.prog 171 #[.slice A b.length c] w fun e w'=>CellR (leafG b) w.heap.size e w'/\Below w.heap.size w w':=by
 obtain ⟨w0,hw0⟩:∃ w0,w0=w.alloc (.cells #[.slice none 0 0,.int .i64 0,.slice none 0 0,.int .u32 0,.int .u32 0] 113):=⟨_,rfl⟩
 have hb0:Below w.heap.size w w0:=by rw [hw0];exact (bR _ w).alloc (nR _) _
 have hZ0:Blk w0 w.heap.size 113 #[.slice none 0 0,.int .i64 0,.slice none 0 0,.int .u32 0,.int .u32 0]:=by rw [hw0];exact Blk.new _ _ _
 have hCu:=cutter_any A b.length c w0
 obtain ⟨w1,hw1⟩:∃ w1,w1=w0.alloc (.cells #[.slice A b.length c] 23):=⟨_,rfl⟩
 have hb1:Below w0.heap.size w0 w1:=by rw [hw1];exact (bR _ w0).alloc (nR _) _
 have hK1:Blk w1 w0.heap.size 23 #[.slice A b.length c]:=by rw [hw1];exact Blk.new _ _ _
 rw [<-hw1] at hCu
 obtain ⟨g,HG⟩:∃ g,Hid (w0.heap.size=g):=⟨_,lH rfl⟩
 rw [HG.out] at hCu hK1;have hb01:Below w.heap.size w w1:=hb0.trans (hb1.mono hb0.size)
 have hg0:w.heap.size<=g:=by have:=HG.out;have:=hb0.size;omega
 have hBg:B<=g:=nT hB hg0;have hC1:=cut_let hK1 (hr.below (hb01.mono hB)) hc hl 1 (by omega) hBg;unfold closC at hCu;have HG0:Hid (w0.heap.size=w.heap.size+1):=lH (by rw [hw0];simp);have HW0:=lH hw0;clear hw0 hw1;have HB:=lH hbb;clear hbb
 have hb1':0<b.length:=by rw [<-HB.out];simp
 obtain ⟨a,rfl,ha0,_⟩:=hr.2 hb1';have h8:=n0.toNat_lt
 have cw8:IntKind.i64.wrap (n0.toNat:Int)=(n0.toNat:Int):=by rw [IntKind.wrap_i64];omega
 have cw9:IntKind.i64.wrap (1+(n0.toNat:Int))=1+(n0.toNat:Int):=by rw [IntKind.wrap_i64];omega
 obtain ⟨k,HKm⟩:∃ k,Hid (min (1+n0.toNat) b.length=k):=⟨_,lH rfl⟩
 have kle:k<=b.length:=by rw [<-HKm.out];omega
 have mI:min (1+(n0.toNat:Int)) (b.length:Int)=(k:Int):=by rw [<-HKm.out];omega
 have mI2:(if 1+(n0.toNat:Int)<=(b.length:Int) then 1+(n0.toNat:Int) else (b.length:Int))=(k:Int):=by rw [<-HKm.out];split <;> omega
 have mI3:(if (b.length:Int)<1+(n0.toNat:Int) then (b.length:Int) else 1+(n0.toNat:Int))=(k:Int):=by rw [<-HKm.out];split <;> omega
 have k1:(k:Int)<=(b.length:Int):=by omega
 have k2:(b.length:Int)<=(c:Int):=by omega
 have k3:¬ (k:Int)<0:=by omega
 have k4:(k:Int)<=(c:Int):=by omega
 obtain ⟨D,HD⟩:∃ D,Hid (r.drop n0.toNat=D):=⟨_,lH rfl⟩
 have hDl:b.length-k=D.length:=by rw [<-HD.out,<-HKm.out,lD,<-HB.out,List.length_cons];omega
 obtain ⟨a2,ha2,hDR⟩:∃ a2,(if c=k then some a else some (a.add k))=some a2/\Reads w B 1 (some a2) D.length (bl D):=by
  by_cases hd0:D.length=0
  ·refine ⟨if c=k then a else a.add k,by split <;> rfl,by rw [bl_len,hd0],fun h=>absurd h (by omega)⟩
  ·refine ⟨a.add k,by rw [if_neg (by omega)],?_⟩
   have e:D=b.drop k:=by rw [<-HD.out,<-HB.out,show k=n0.toNat+1 by have:=HKm.out;omega];rfl
   rw [e,lD];exact reads_drop hr (by omega)
 have HDR:=lH hDR;clear hDR
 obtain ⟨v,HV1⟩:∃ v,Hid ((getN D).1=v):=⟨_,lH rfl⟩
 obtain ⟨wd,HV2⟩:∃ v,Hid ((getN D).2.1=v):=⟨_,lH rfl⟩
 obtain ⟨er,HV3⟩:∃ v,Hid ((getN D).2.2=v):=⟨_,lH rfl⟩
 have hDl2:D.length<=b.length:=by omega
 have hLR:leafR b=if er≠0\/1000<v then none else some (if v<=40 then ⟨r.take n0.toNat,(v:Nat),D.drop wd,0,0⟩ else ⟨r.take n0.toNat,(v:Nat),[],(if (D.drop wd).length<=8 then numN (D.drop wd) % 4294967296 else 0),0⟩):=by
  rw [<-HB.out,<-HV1.out,<-HV2.out,<-HV3.out,<-HD.out];rfl
 rw [HD.out,HV3.out] at her;rw [HD.out,HV1.out] at hv h40
 have e1:(er != 0)=false:=by rw [her];rfl
 have e2:decide (1000<(v:Int))=false:=dF (by omega);have e3:decide (1000<v)=false:=dF (by omega)
 have hwdD:wd<=D.length:=by rw [<-HV2.out];exact (putN_getN (HV3.out.trans her)).2.1
 have cv:IntKind.i64.wrap (v:Int)=(v:Int):=by rw [IntKind.wrap_i64];omega
 have e4:decide ((v:Int)<=40)=false:=dF (by omega);have e5:decide (v<=40)=false:=dF (by omega);go_enter Tryz.func171,Tryz.ntmps171
 go_wp2_with (first
  | (go_at_call 218;refine hC4.mono ?_)
  | (rw [<-HW6.out];go_at_call 205;refine hV.mono ?_;rintro e w7 ⟨rfl,hb7⟩;have R7:=R6.below (hb7.mono (by have:=R6.lt;omega)) R6.lt;have hK7:=hK6.below hb7 hK6.lt;have hr7:=hr6.below (hb7.mono (nT hBg (Nat.le_of_lt hK6.lt)));have hC4:=cut_let hK7 hr7 hc4 (by rw [hrD];omega) wd (by omega) hBg;have HZ7:=lH (HZ6.out.below hb7 HZ6.out.lt);clear R7)
  | (go_at_call 68;refine hCl.mono ?_;rintro e w5 ⟨A6,c6,rfl,ho5,hb5⟩;have c35:=(hb5.cell (lT ha3 (nT hBg (Nat.le_of_lt hK4.lt)))).trans c34;obtain ⟨w6,hw6⟩:∃ w6,w6=w5.alloc (.cells #[.slice A6 kb2.length c6,.int .i64 0,.slice none 0 0,.int .u32 0,.int .u32 0] 113):=⟨_,rfl⟩;have hb6:Below w5.heap.size w5 w6:=(by rw [hw6];exact (bR _ _).alloc (nR _) _);have Z6:Blk w6 w5.heap.size 113 #[.slice A6 kb2.length c6,.int .i64 0,.slice none 0 0,.int .u32 0,.int .u32 0]:=(by rw [hw6];exact Blk.new _ _ _);have hg5:g<w5.heap.size:=(lT hK4.lt hb5.size);have hb56:Below w4.heap.size w4 w6:=(hb5.trans (hb6.mono hb5.size));have c36:(w5.alloc (.cells #[.slice A6 kb2.length c6,.int .i64 0,.slice none 0 0,.int .u32 0,.int .u32 0] 113)).cell? a3=some (.int .u8 (n0.toNat:Nat)):=(by rw [<-hw6];exact (hb6.cell (lT ha3 (nT hBg (Nat.le_of_lt hg5)))).trans c35);have hK6:=hK4.below hb56 hK4.lt;have hr6:=hr4.below (hb56.mono (nT hBg (Nat.le_of_lt hK4.lt)));have ho6:=own_belN ho5 hb6;have HW6:=lH hw6;have HZ6:=lH Z6;have hbg6:Below g w1 w6:=(hb3.trans hb4).trans (hb56.mono (Nat.le_of_lt hK4.lt));have hb0g:Below w0.heap.size w0 w6:=hb1.trans (hbg6.mono (by rw [HG.out];exact nR _));have hbw6:Below w.heap.size w w6:=hb0.trans (hb0g.mono hb0.size);have hV:=VGet_all (some a2) (c-k) D w6 (nT hB hbw6.size) (HDR.out.below (hbw6.mono hB)) (by omega) (by omega);rw [HV1.out,HV2.out,HV3.out] at hV;have R6:=hZ0.below hb0g hZ0.lt;clear hw6 Z6 c35)
  | (go_at_call 218;refine hC3.mono ?_;rintro e w4 ⟨kb2,r2,A5,A7,c7,HP3,rfl,hk4,hc4,hr4,hK4,hb4,hf4⟩;have hrD:r2=D:=(by rw [HP3.out.2,HP1.out.2,<-HD.out,<-HB.out];rfl);have hCl:=BClone_any A5 kb2.length kb2 w4 hk4 (nT hBg (Nat.le_of_lt hK4.lt)) (by rw [HP3.out.1,lK,HP1.out.2,lD];omega);have c34:=(hb4.cell (lT ha3 hBg)).trans c3)
  | (go_at_call 218;refine hC1.mono ?_;rintro e w3 ⟨kb,r0,A1,A2,c2,HP1,rfl,hk3,hc2,hr2,hK3,hb3,hf3⟩;have hkb:kb=[n0]:=(by rw [HP1.out.1,<-HB.out];rfl);have HNB:=lH hkb;have hn0:((kb.length:Int)==0)=false:=(by rw [hkb];rfl);have i2:0<kb.length:=(by rw [hkb];exact Nat.zero_lt_one);have i1:(0:Int)<(kb.length:Int):=(by omega);obtain ⟨a3,rfl,ha3,hc3⟩:=hk3.2 i2;have c3:=hc3 0 (.int .u8 (n0.toNat:Nat)) (by rw [hkb];rfl);rw [show a3.add 0=a3 by unfold Addr.add;rw [if_pos rfl]] at c3;have hC3:=cut_let hK3 hr2 hc2 (by rw [HP1.out.2,lD];omega) n0.toNat (by have:=n0.toNat_lt;omega) hBg;clear hC1 hc3 hkb)
  | (rw [<-HW0.out];go_at_call 204;refine hCu.mono ?_;rintro e w2 ⟨rfl,h2⟩;have h2:=h2.symm;subst h2))
 rintro e w8 ⟨p1,r3,A8,A9,c9,HP4,rfl,_,hc9,hr8,hK8,hb8,hf8⟩;have HZ8:=lH (HZ7.out.fr hf8 (show ¬ w5.heap.size=g by omega));have k81:w8.cell? ⟨w5.heap.size,1,none⟩=some (.int .i64 0):=HZ8.out.cell 1;have f81:=HZ8.out.frozen 1
 obtain ⟨w9,hw9⟩:∃ w9,w9=w8.setCell ⟨w5.heap.size,1,none⟩ (.int .i64 (v:Nat)):=⟨_,rfl⟩
 have HZ9:=lH (show Blk w9 w5.heap.size 113 #[.slice A6 kb2.length c6,.int .i64 (v:Nat),.slice none 0 0,.int .u32 0,.int .u32 0] by rw [hw9];exact HZ8.out.set_ 1 _)
 have hf9:Fr (fun k=>k=w5.heap.size) w8 w9:=(by rw [hw9];exact (Fr.refl (fun k=>k=w5.heap.size) w8).setCell (p:=⟨w5.heap.size,1,none⟩) (.inr rfl) _)
 have hK9:=hK8.fr hf9 (show ¬ g=w5.heap.size by omega);have hr9:=hr8.below (hf9.below (B:=B) (nT hBg (Nat.le_of_lt hK8.lt)) (fun k hk=>by omega));have hC5:=cut_let hK9 hr9 hc9 (by rw [HP4.out.2,hrD,lD];omega) b.length (by omega) hBg;have HW9:=lH hw9;clear hw9
 go_wp2_with (first
  | (rw [<-HW9.out];go_at_call 218;refine hC5.mono ?_))
 rintro e w10 ⟨rs,r4,A10,A11,c11,HP5,rfl,hk10,hc11,hr10,hK10,hb10,hf10⟩
 have hrs:rs=D.drop wd:=(by rw [HP5.out.1,HP4.out.2,hrD,List.take_of_length_le (by rw [lD];omega)])
 have HRS:=lH hrs
 have hrsl:rs.length<=1000:=(by rw [hrs,lD];omega)
 have HZ10:=lH (HZ9.out.fr hf10 (show ¬ w5.heap.size=g by omega));have k101:w10.cell? ⟨w5.heap.size,1,none⟩=some (.int .i64 (v:Nat)):=HZ10.out.cell 1;have hCl2:=BClone_any A10 rs.length rs w10 hk10 (nT hBg (Nat.le_of_lt hK10.lt)) (by omega);have hN2:=Number_all A10 rs.length rs w10 hk10;clear hrs
 obtain ⟨nl,HNL⟩:∃ k,Hid (numL rs=k):=⟨_,lH rfl⟩
 rw [HNL.out] at hN2
 have hnl:nl<18446744073709551616:=by rw [<-HNL.out];exact numL_lt rs
 have cv2:IntKind.u32.wrap (nl:Int)=((nl % 4294967296:Nat):Int):=by rw [IntKind.wrap_u32];omega
 obtain ⟨ov,HOVe⟩:∃ k,Hid (nl % 4294967296=k):=⟨_,lH rfl⟩
 rw [HOVe.out] at cv2
 have hov:ov<4294967296:=by rw [<-HOVe.out];exact Nat.mod_lt _ (by decide)
 have k103:w10.cell? ⟨w5.heap.size,3,none⟩=some (.int .u32 0):=HZ10.out.cell 3;have f103:=HZ10.out.frozen 3;have hz10:w5.heap.size<w10.heap.size:=HZ10.out.lt
 obtain ⟨wf,hwf⟩:∃ wf,wf=w10.setCell ⟨w5.heap.size,3,none⟩ (.int .u32 (ov:Nat)):=⟨_,rfl⟩
 have ZF:Blk wf w5.heap.size 113 #[.slice A6 kb2.length c6,.int .i64 (v:Nat),.slice none 0 0,.int .u32 (ov:Nat),.int .u32 0]:=by rw [hwf];exact HZ10.out.set_ 3 _
 have hff:Fr (fun k=>k=w5.heap.size) w10 wf:=by rw [hwf];exact (Fr.refl (fun k=>k=w5.heap.size) w10).setCell (p:=⟨w5.heap.size,3,none⟩) (.inr rfl) _
 have HWF:=lH hwf;clear hwf;have hfa:Fr (fun k=>k=g\/k=w5.heap.size) w6 wf:=(Fr.of_below hb7).trans ((hf8.mono fun k _ h=>.inl h).trans ((hf9.mono fun k _ h=>.inr h).trans ((hf10.mono fun k _ h=>.inl h).trans (hff.mono fun k _ h=>.inr h))))
 have hgw:g=w.heap.size+1:=by rw [<-HG.out];exact HG0.out
 have hkf:OwnB wf (w.heap.size+1) A6 c6 kb2:=own_le (own_frN ho6 hfa (fun ad e h=>by have h1:=own_ge ho5 ad e;have h2:=own_ltN ho5 ad e;have h3:=hK4.lt;omega)) (by have:=hK4.lt;omega);have hvf:OwnB wf (w.heap.size+1) none 0 []:=OwnB.nil _ _ 0;have hbf:Below w.heap.size w wf:=hbw6.trans (hfa.below (B:=w.heap.size) hbw6.size (fun k hk=>by omega));have RF:Blk wf w.heap.size 113 #[.slice none 0 0,.int .i64 0,.slice none 0 0,.int .u32 0,.int .u32 0]:=R6.fr hfa (by intro h;omega)
 go_wp2_with (first
  | (go_at_call 113;refine hN2.mono ?_))
 rintro e w12 ⟨rfl,h12⟩;subst h12;have hrf:=hr.below (hbf.mono hB);have hP:=PutC_any true ⟨A6,c6,none,0,⟨kb2,(v:Nat),[],ov,0⟩⟩ wf (nR _) hkf.rd hvf.rd ⟨hov,Nat.zero_lt_succ _⟩;unfold CX.val cellV at hP;simp only [cputF,if_true] at hP
 have hkey:r.take n0.toNat=kb2:=by rw [HP3.out.1,HP1.out.2,<-HB.out];rfl
 have hovr:(if rs.length<=8 then numN rs % 4294967296 else 0)=ov:=by
  rw [<-HOVe.out,<-HNL.out];unfold numL
  split <;> rfl
 have HLR2:Hid (leafR b=some ⟨kb2,(v:Nat),[],ov,0⟩):=lH (by rw [hLR,if_neg (by omega),if_neg (by omega),<-HRS.out,hkey,hovr]);have hcoB:cOK true ⟨kb2,(v:Nat),[],ov,0⟩=leafOK ⟨kb2,(v:Nat),[],ov,0⟩:=rfl
 cases hok:cOK true ⟨kb2,(v:Nat),[],ov,0⟩ with
 | false =>
  have hg:leafG b=none:=by unfold leafG;rw [HLR2.out];simp only;rw [if_neg];rw [<-hcoB,hok];simp
  rw [hok] at hP;simp only [Bool.false_eq_true,if_false] at hP
  go_wp2_with (first
   | (go_at_call 170;refine hP.mono ?_;rintro e w9' ⟨A9',n9,c9',rfl,_,hb9'⟩;have R9:=RF.below hb9' RF.lt)
   | (rw [<-HWF.out];refine wpList_load_row rfl 113 _ rfl _ rfl _ _ _ _ ZF Tryz.underlying113 rfl (by kernel_rfl) ?_)
   | (refine wpList_store_row rfl 113 _ _ rfl w.heap.size _ rfl rfl 113 _ R9 (by kernel_rfl) rfl (by simp [Value.oneCell']) ?_))
  refine bodyPost_ret (rT rfl _ _ w.heap.size 113 _ (0,0) _ rfl (setRow_heap _ _ _ _ _ _ R9) Tryz.underlying113 rfl (by kernel_rfl)) rfl ?_;rw [hg];have hb11':=hbf.trans (hb9'.mono hbf.size);exact ⟨rfl,hb11'.trans ((fS _ w.heap.size _).below (B:=w.heap.size) hb11'.size (fun k hk=>by omega))⟩
 | true =>
  rw [hok] at hP;simp only [if_true] at hP
  obtain ⟨xb,HXB⟩:∃ x,Hid (cB true ⟨kb2,(v:Nat),[],ov,0⟩=x):=⟨_,lH rfl⟩
  rw [HXB.out] at hP;have hE:=fun (W:World) (A9:Option Addr) (c9:Nat) (h:Reads W W.heap.size 1 A9 xb.length (bl xb)) (hb:Below wf.heap.size wf W)=>Equal_any c9 c W h (hrf.below (hb.mono (nT hB hbf.size)))
  obtain ⟨q,HQ⟩:∃ q,Hid (decide (xb=b)=q):=⟨_,lH rfl⟩
  rw [HQ.out] at hE
  have hgI:leafG b=if q=true then some ⟨kb2,(v:Nat),[],ov,0⟩ else none:=by
   unfold leafG;rw [HLR2.out,<-HQ.out];simp only;rw [<-hcoB,hok,show leafB ⟨kb2,(v:Nat),[],ov,0⟩=xb from HXB.out];simp
  cases q with
  | false =>
   go_wp2_with (first
    | (go_at_call 116;refine hE9.mono ?_;rintro e w10' ⟨rfl,h10⟩;have h10:=h10.symm;subst h10)
    | (go_at_call 170;refine hP.mono ?_;rintro e w9' ⟨A9',n9,c9',rfl,hn9,hb9'⟩;obtain ⟨rfl,ho9⟩:=hn9 trivial;have R9:=RF.below hb9' RF.lt;have Z9':=ZF.below hb9' ZF.lt;have hE9:=hE w9' A9' c9' (Reads.of_own ho9) hb9')
    | (rw [<-HWF.out];refine wpList_load_row rfl 113 _ rfl _ rfl _ _ _ _ ZF Tryz.underlying113 rfl (by kernel_rfl) ?_)
    | (refine wpList_store_row rfl 113 _ _ rfl w.heap.size _ rfl rfl 113 _ R9 (by kernel_rfl) rfl (by simp [Value.oneCell']) ?_))
   refine bodyPost_ret (rT rfl _ _ w.heap.size 113 _ (0,0) _ rfl (setRow_heap _ _ _ _ _ _ R9) Tryz.underlying113 rfl (by kernel_rfl)) rfl ?_;rw [hgI];have hb11':=hbf.trans (hb9'.mono hbf.size);exact ⟨rfl,hb11'.trans ((fS _ w.heap.size _).below (B:=w.heap.size) hb11'.size (fun k hk=>by omega))⟩
  | true =>
   go_wp2_with (first
    | (go_at_call 116;refine hE9.mono ?_;rintro e w10' ⟨rfl,h10⟩;have h10:=h10.symm;subst h10)
    | (go_at_call 170;refine hP.mono ?_;rintro e w9' ⟨A9',n9,c9',rfl,hn9,hb9'⟩;obtain ⟨rfl,ho9⟩:=hn9 trivial;have R9:=RF.below hb9' RF.lt;have Z9':=ZF.below hb9' ZF.lt;have hE9:=hE w9' A9' c9' (Reads.of_own ho9) hb9')
    | (refine wpList_load_row rfl 113 _ rfl _ rfl _ _ _ _ Z9' Tryz.underlying113 rfl (by kernel_rfl) ?_)
    | (rw [<-HWF.out];refine wpList_load_row rfl 113 _ rfl _ rfl _ _ _ _ ZF Tryz.underlying113 rfl (by kernel_rfl) ?_)
    | (refine wpList_store_row rfl 113 _ _ rfl w.heap.size _ rfl rfl 113 _ R9 (by kernel_rfl) rfl (by simp [Value.oneCell']) ?_))
   refine bodyPost_ret (rT rfl _ _ w.heap.size 113 _ (0,0) _ rfl (setRow_heap _ _ _ _ _ _ R9) Tryz.underlying113 rfl (by kernel_rfl)) rfl ?_;rw [hgI];have hb11':=hbf.trans (hb9'.mono hbf.size);exact ⟨⟨⟨A6,c6,none,0,⟨kb2,(v:Nat),[],ov,0⟩⟩,rfl,rfl,((hkf.below hb9').fr (fS _ w.heap.size _) (fun k hk=>by omega)).lo (Nat.le_succ _),((hvf.below hb9').fr (fS _ w.heap.size _) (fun k hk=>by omega)).lo (Nat.le_succ _)⟩,hb11'.trans ((fS _ w.heap.size _).below (B:=w.heap.size) hb11'.size (fun k hk=>by omega))⟩
end
section
open Go.RowKit
structure KE where
 nm:Nat
 A:Option Addr
 cap:Nat
 b:List UInt8
 born:Nat
def KE.val (x:KE):Value:=.slice x.A x.b.length x.cap
def KE.ent (x:KE):MapEntry:={key:=.int .u32 (x.nm:Nat),val:=x.val,born:=x.born}
def look (id:Nat):List KE->Nat->Option (Nat × KE)
 | [],_=>none
 | x::l,i=>if x.nm=id then some (i,x) else look id l (i+1)
theorem find_look (id:Nat):∀ (l:List KE) (i:Nat),Instr.findNow (.int .u32) (.int .u32 (id:Nat)) (l.map KE.ent) i=some ((look id l i).map fun r=>(r.1,r.2.val))
 | [],i=>rfl
 | x::l,i=>by
  simp only [List.map_cons,Instr.findNow,KE.ent,Instr.sameNow,look];by_cases h:x.nm=id
  ·subst h;simp
  ·have h':((id:Int)==(x.nm:Int))=false:=by simp;omega
   rw [if_neg h];simp only [h',if_true];exact find_look id l (i+1)
theorem look_spec (id:Nat):∀ (l:List KE) (i j:Nat) (x:KE),look id l i=some (j,x)->i<=j/\l[j-i]?=some x/\x.nm=id
 | [],i,j,x,h=>by cases h
 | y::l,i,j,x,h=>by
  unfold look at h;by_cases e:y.nm=id
  ·rw [if_pos e] at h;cases h;exact ⟨nR _,by simp,e⟩
  ·rw [if_neg e] at h;obtain ⟨h1,h2,h3⟩:=look_spec id l (i+1) j x h;refine ⟨by omega,?_,h3⟩;rw [show j-i=(j-(i+1))+1 by omega,List.getElem?_cons_succ];exact h2
theorem zeroPk (w:World):(zeroValue 23).run Tryz.prog w=.ok (.slice none 0 0) w:=by kernel_rfl
theorem getMap {P:Program} {w:World} {r:Nat} {es:Array MapEntry} {clock:Nat} (h:w.heap[r]?=some (.map es clock)):(getObj r).run P w=.ok (.map es clock) w:=by
 simp [getObj,Sem.run,h]
structure MapTo (w w1:World) (M:Nat) (es:Array MapEntry) (clock:Nat):Prop where
 map:w1.heap[M]?=some (.map es clock)
 os:w1.os=w.os
 tape:w1.tape=w.tape
 output:w1.output=w.output
 size:w1.heap.size=w.heap.size
 block:∀ k,k≠M->w1.heap[k]?=w.heap[k]?
theorem MapTo.frX {X:Nat->Prop} {a w w1:World} {M:Nat} {es:Array MapEntry} {clock:Nat} (h:MapTo w w1 M es clock) (hf:Fr X a w) (hX:a.heap.size<=M\/X M):Fr X a w1 :=
 ⟨h.os.trans hf.os,h.tape.trans hf.tape,h.output.trans hf.output,by rw [h.size];exact hf.size,fun k hk hx=>(h.block k (fun e=>by subst e;rcases hX with h1 | h1;omega;exact hx h1)).trans (hf.block k hk hx)⟩
theorem setMap {P:Program} {w:World} {r:Nat} {es es':Array MapEntry} {clock clock':Nat} (h:w.heap[r]?=some (.map es clock)):∃ w1,(setObj r (.map es' clock')).run P w=.ok () w1/\MapTo w w1 r es' clock':=by
 have hlt:=(aS.1 h).1;refine ⟨{w with heap:=w.heap.setIfInBounds r (.map es' clock')},by simp [setObj,Sem.run,h],?_,rfl,rfl,rfl,by simp,fun k hk=>?_⟩
 ·simp [hlt]
 ·exact Array.getElem?_setIfInBounds_ne (Ne.symm hk)
theorem chk (b:Bool) (id:Nat) (w:World):(Instr.checkKey b 10000 22 (.int .u32 (id:Nat))).run Tryz.prog w=.ok () w:=by
 have:∀ q,(Instr.checkKey b (q+1) 22 (.int .u32 (id:Nat))).run Tryz.prog w=.ok () w:=fun q=>by
  simp [Instr.checkKey,run_underlying Tryz.underlying22]
 exact this 9999
section
variable {w:World} {ops:Array Oper} {rest:List Oper} {o:Oper} {a:Act} {Q:Exit->Act->World->Prop} {M:Nat} {id:Nat} {l:List KE} {clock:Nat}
theorem run_look (hM:w.heap[M]?=some (.map (l.map KE.ent).toArray clock)) (ok:Bool) :
 (Instr.lookup 91 (.map (some M)) (.int .u32 (id:Nat)) ok).run Tryz.prog w=.ok (match look id l 0 with
  | some r=>if ok then .tuple #[r.2.val,.bool true] else r.2.val
  | none=>if ok then .tuple #[.slice none 0 0,.bool false] else .slice none 0 0) w:=by
 have hf:=find_look id l 0
 cases hl:look id l 0 with
 | none =>
  rw [hl] at hf;simp [Instr.lookup,run_underlying Tryz.underlying91,getMap hM,chk,Instr.findKey,run_underlying Tryz.underlying22,hf,zeroPk,Result.andThen]
 | some r =>
  rw [hl] at hf;simp [Instr.lookup,run_underlying Tryz.underlying91,getMap hM,chk,Instr.findKey,run_underlying Tryz.underlying22,hf,Result.andThen]
theorem wpList_look_some (hg:o.guard=none) (m x:Operand) (hop:o.op=Op.lookup 91 m x true) (hm:a.eval m=.map (some M)) (hx:a.eval x=.int .u32 (id:Nat))
 (hM:w.heap[M]?=some (.map (l.map KE.ent).toArray clock)) {j:Nat} {y:KE} (hl:look id l 0=some (j,y))
 (hK:wpList Tryz.prog ops Q rest (a.put o.dst (.tuple #[y.val,.bool true])) w):wpList Tryz.prog ops Q (o::rest) a w:=by
 refine wpList_plain hg fun K' hK'=>?_;have hrun:=run_look (id:=id) hM true;rw [hl] at hrun;unfold Oper.wp;simp [execOp,hop,hm,hx,hrun,Result.andThen];exact hK' _ _ hK
theorem wpList_look_none (hg:o.guard=none) (m x:Operand) (hop:o.op=Op.lookup 91 m x true) (hm:a.eval m=.map (some M)) (hx:a.eval x=.int .u32 (id:Nat))
 (hM:w.heap[M]?=some (.map (l.map KE.ent).toArray clock)) (hl:look id l 0=none)
 (hK:wpList Tryz.prog ops Q rest (a.put o.dst (.tuple #[.slice none 0 0,.bool false])) w):wpList Tryz.prog ops Q (o::rest) a w:=by
 refine wpList_plain hg fun K' hK'=>?_;have hrun:=run_look (id:=id) hM true;rw [hl] at hrun;unfold Oper.wp;simp [execOp,hop,hm,hx,hrun,Result.andThen];exact hK' _ _ hK
theorem wpList_look1 (hg:o.guard=none) (m x:Operand) (hop:o.op=Op.lookup 91 m x false) (hm:a.eval m=.map (some M)) (hx:a.eval x=.int .u32 (id:Nat))
 (hM:w.heap[M]?=some (.map (l.map KE.ent).toArray clock)) {j:Nat} {y:KE} (hl:look id l 0=some (j,y))
 (hK:wpList Tryz.prog ops Q rest (a.put o.dst (y.val)) w):wpList Tryz.prog ops Q (o::rest) a w:=by
 refine wpList_plain hg fun K' hK'=>?_;have hrun:=run_look (id:=id) hM false;rw [hl] at hrun;unfold Oper.wp;simp [execOp,hop,hm,hx,hrun,Result.andThen];exact hK' _ _ hK
theorem run_put (hM:w.heap[M]?=some (.map (l.map KE.ent).toArray clock)) {y:KE} (hl:look y.nm l 0=none) (hy:y.born=clock) :
 ∃ w1,(Instr.mapUpdate 91 (.map (some M)) (.int .u32 (y.nm:Nat)) y.val).run Tryz.prog w=.ok () w1/\MapTo w w1 M ((l++[y]).map KE.ent).toArray (clock+1):=by
 obtain ⟨w1,h1,h2⟩:=setMap (P:=Tryz.prog) (es':=((l++[y]).map KE.ent).toArray) (clock':=clock+1) hM;refine ⟨w1,?_,h2⟩;have hf:=find_look y.nm l 0;rw [hl] at hf
 have he:(l.map KE.ent).toArray.push {key:=.int .u32 (y.nm:Nat),val:=y.val,born:=clock}=((l++[y]).map KE.ent).toArray:=by
  subst hy;simp [KE.ent]
 simp only [Instr.mapUpdate,Sem.run_bind,run_underlying Tryz.underlying91,getMap hM,chk,Instr.findKey,run_underlying Tryz.underlying22,hf,Result.andThen,Option.map_none,Sem.run_pure,he,h1]
theorem run_set (hM:w.heap[M]?=some (.map (l.map KE.ent).toArray clock)) {j:Nat} {x y:KE} (hl:look y.nm l 0=some (j,x)) (hy:y.born=x.born) :
 ∃ w1,(Instr.mapUpdate 91 (.map (some M)) (.int .u32 (y.nm:Nat)) y.val).run Tryz.prog w=.ok () w1/\MapTo w w1 M ((l.set j y).map KE.ent).toArray clock:=by
 obtain ⟨w1,h1,h2⟩:=setMap (P:=Tryz.prog) (es':=((l.set j y).map KE.ent).toArray) (clock':=clock) hM;refine ⟨w1,?_,h2⟩;have hf:=find_look y.nm l 0;rw [hl] at hf;obtain ⟨_,hj,hid⟩:=look_spec _ _ _ _ _ hl;simp only [Nat.sub_zero] at hj
 have he:(l.map KE.ent).toArray.modify j (fun e=>{e with key:=.int .u32 (y.nm:Nat),val:=y.val})=((l.set j y).map KE.ent).toArray:=by
  apply Array.toList_inj.1;simp only [Array.toList_modify,List.map_set];apply List.ext_getElem? ;intro k;rw [List.getElem?_modify,List.getElem?_set];by_cases hk:j=k
  ·subst hk;have hlt:=(lS.1 hj).1;have hje:=(lS.1 hj).2;simp [hlt,KE.ent,hy,hje]
  ·simp [hk]
 have hkey:((l.map KE.ent).toArray[j]?).map (·.key)=some (.int .u32 (y.nm:Nat)):=by simp [hj,KE.ent,hid]
 simp only [Instr.mapUpdate,Sem.run_bind,run_underlying Tryz.underlying91,getMap hM,chk,Instr.findKey,run_underlying Tryz.underlying22,hf,Result.andThen,Option.map_some,Sem.run_pure,hkey,Option.getD_some]
 have hsb:∀ q,Instr.sameBits q (.int .u32 (y.nm:Nat)) (.int .u32 (y.nm:Nat))=true:=fun q=>by cases q <;> simp [Instr.sameBits]
 have hst:(Instr.keyThatStays (.int .u32 (y.nm:Nat)) (.int .u32 (y.nm:Nat))).run Tryz.prog w=.ok (.int .u32 (y.nm:Nat)) w:=by
  simp [Instr.keyThatStays,hsb]
 rw [hst];simp only [Result.andThen,he,h1]
theorem wpList_put (hg:o.guard=none) (m k v:Operand) (hop:o.op=Op.mapUpdate 91 m k v) {y:KE} (hm:a.eval m=.map (some M)) (hk:a.eval k=.int .u32 (y.nm:Nat)) (hv:a.eval v=y.val)
 (hM:w.heap[M]?=some (.map (l.map KE.ent).toArray clock)) (hl:look y.nm l 0=none) (hy:y.born=clock)
 (hK:∀ w1,MapTo w w1 M ((l++[y]).map KE.ent).toArray (clock+1)->wpList Tryz.prog ops Q rest (a.put o.dst undef) w1):wpList Tryz.prog ops Q (o::rest) a w:=by
 refine wpList_plain hg fun K' hK'=>?_;obtain ⟨w1,hrun,hm1⟩:=run_put hM hl hy;unfold Oper.wp;simp [execOp,hop,hm,hk,hv,hrun,Result.andThen];exact hK' _ _ (hK w1 hm1)
theorem wpList_set (hg:o.guard=none) (m k v:Operand) (hop:o.op=Op.mapUpdate 91 m k v) {j:Nat} {x y:KE} (hm:a.eval m=.map (some M)) (hk:a.eval k=.int .u32 (y.nm:Nat)) (hv:a.eval v=y.val)
 (hM:w.heap[M]?=some (.map (l.map KE.ent).toArray clock)) (hl:look y.nm l 0=some (j,x)) (hy:y.born=x.born)
 (hK:∀ w1,MapTo w w1 M ((l.set j y).map KE.ent).toArray clock->wpList Tryz.prog ops Q rest (a.put o.dst undef) w1):wpList Tryz.prog ops Q (o::rest) a w:=by
 refine wpList_plain hg fun K' hK'=>?_;obtain ⟨w1,hrun,hm1⟩:=run_set hM hl hy;unfold Oper.wp;simp [execOp,hop,hm,hk,hv,hrun,Result.andThen];exact hK' _ _ (hK w1 hm1)
end
end
section
open Go.RowKit
def moreX (X:Nat->Prop) (w:World):Nat->Prop:=fun k=>X k\/w.heap.size<=k
def txCs (src:Value) (M:Nat) (t:PT):Array Value:=#[src,.int .u64 (t.lsn:Nat),.int .u32 (t.root:Nat),.int .u32 (t.pages:Nat),.int .u32 (t.free:Nat),.int .u64 (t.entries:Nat),.map (some M),.bool t.changed]
structure BytesX (X:Nat->Prop) (w:World) (A:Option Addr) (c:Nat) (b:List UInt8):Prop where
 rd:Reads w w.heap.size 1 A b.length (bl b)
 cap:b.length<=c
 long:b.length<=3000000
 inX:b.length≠0->∀ ad,A=some ad->X ad.block/\ad.block<w.heap.size
def KeepX (X:Nat->Prop) (w w':World):Prop:=w.heap.size<=w'.heap.size/\∀ k,X k->k<w.heap.size->w'.heap[k]?=w.heap[k]?
theorem KeepX.of_below {X:Nat->Prop} {w w':World} (h:Below w.heap.size w w'):KeepX X w w':=⟨h.size,fun k _ hk=>h.block k hk⟩
theorem reads_keep {X:Nat->Prop} {w w':World} {A:Option Addr} {n size:Nat} {xs:List Value} (h:Reads w w.heap.size size A n xs) (hk:KeepX X w w') (hX:n≠0->∀ ad,A=some ad->X ad.block):Reads w' w'.heap.size size A n xs :=
 ⟨h.1,fun h0=>by
  obtain ⟨ad,e,hb,hc⟩:=h.2 h0;refine ⟨ad,e,lT hb hk.1,fun j u hu=>?_⟩;rw [<-hc j u hu]
  exact World.cell?_of_block (w:=w) (by rw [block_of_add];exact hk.2 _ (hX (by omega) ad e) hb)⟩
theorem BytesX.keep {X:Nat->Prop} {w w':World} {A:Option Addr} {c:Nat} {b:List UInt8} (h:BytesX X w A c b) (hk:KeepX X w w'):BytesX X w' A c b:=⟨reads_keep h.rd hk (fun h0 ad e=>(h.inX h0 ad e).1),h.cap,h.long,fun h0 ad e=>⟨(h.inX h0 ad e).1,lT (h.inX h0 ad e).2 hk.1⟩⟩
theorem BytesX.mono {X Y:Nat->Prop} {w:World} {A:Option Addr} {c:Nat} {b:List UInt8} (h:BytesX X w A c b) (hX:∀ k,X k->Y k):BytesX Y w A c b:=⟨h.rd,h.cap,h.long,fun h0 ad e=>⟨hX _ (h.inX h0 ad e).1,(h.inX h0 ad e).2⟩⟩
def SrcAt (X:Nat->Prop) (w:World) (v:Value) (src:List (List UInt8)):Prop:=∃ A c,∃ ps:List Pt,v=.iface 66 (.agg #[.slice A ps.length c])/\src=ps.map Pt.b/\Reads w w.heap.size 1 A ps.length (ps.map Pt.val)/\ps.length<=3000000/\(ps.length≠0->∀ ad,A=some ad->X ad.block/\ad.block<w.heap.size)/\∀ p∈ps,BytesX X w p.A p.c p.b
theorem SrcAt.keep {X:Nat->Prop} {w w':World} {v:Value} {src:List (List UInt8)} (h:SrcAt X w v src) (hk:KeepX X w w'):SrcAt X w' v src:=by
 obtain ⟨A,c,ps,e1,e2,h1,h0,h2,h3⟩:=h;exact ⟨A,c,ps,e1,e2,reads_keep h1 hk (fun hn ad e=>(h2 hn ad e).1),h0,fun hn ad e=>⟨(h2 hn ad e).1,lT (h2 hn ad e).2 hk.1⟩,fun p hp=>(h3 p hp).keep hk⟩
theorem SrcAt.mono {X Y:Nat->Prop} {w:World} {v:Value} {src:List (List UInt8)} (h:SrcAt X w v src) (hX:∀ k,X k->Y k):SrcAt Y w v src:=by
 obtain ⟨A,c,ps,e1,e2,h1,h0,h2,h3⟩:=h;exact ⟨A,c,ps,e1,e2,h1,h0,fun hn ad e=>⟨hX _ (h2 hn ad e).1,(h2 hn ad e).2⟩,fun p hp=>(h3 p hp).mono hX⟩
structure TXo (X:Nat->Prop) (w:World) (T M:Nat) (O:List KE) (ck:Nat) (src:Value) (t:PT):Prop where
 ne:T≠M
 xT:X T
 xM:X M
 blk:Blk w T 95 (txCs src M t)
 map:w.heap[M]?=some (.map (O.map KE.ent).toArray ck)
 clk:(∀ e∈O,e.born<ck)/\(O.map KE.born).Nodup
 over:t.over=O.map fun e=>(e.nm,e.b)
 page:∀ e∈O,BytesX (fun k=>X k/\k≠T/\k≠M) w e.A e.cap e.b/\e.b.length=256
 src:SrcAt (fun k=>X k/\k≠T/\k≠M) w src t.src
def TX (X:Nat->Prop) (w:World) (T M:Nat) (t:PT):Prop:=∃ O ck src,TXo X w T M O ck src t
theorem TXo.lt {X:Nat->Prop} {w:World} {T M:Nat} {O:List KE} {ck:Nat} {src:Value} {t:PT} (h:TXo X w T M O ck src t):T<w.heap.size/\M<w.heap.size:=⟨h.blk.lt,(aS.1 h.map).1⟩
theorem TXo.keep {X:Nat->Prop} {w w':World} {T M:Nat} {O:List KE} {ck:Nat} {src:Value} {t:PT} (h:TXo X w T M O ck src t) (hk:KeepX X w w'):TXo X w' T M O ck src t :=
 have hk2:KeepX (fun k=>X k/\k≠T/\k≠M) w w':=⟨hk.1,fun k hx hl=>hk.2 k hx.1 hl⟩
 ⟨h.ne,h.xT,h.xM,(hk.2 T h.xT h.lt.1).trans h.blk,(hk.2 M h.xM h.lt.2).trans h.map,h.clk,h.over,fun e he=>⟨(h.page e he).1.keep hk2,(h.page e he).2⟩,h.src.keep hk2⟩
theorem TXo.mono {X Y:Nat->Prop} {w:World} {T M:Nat} {O:List KE} {ck:Nat} {src:Value} {t:PT} (h:TXo X w T M O ck src t) (hX:∀ k,X k->Y k):TXo Y w T M O ck src t :=
 ⟨h.ne,hX _ h.xT,hX _ h.xM,h.blk,h.map,h.clk,h.over,fun e he=>⟨(h.page e he).1.mono fun k hk=>⟨hX _ hk.1,hk.2⟩,(h.page e he).2⟩,h.src.mono fun k hk=>⟨hX _ hk.1,hk.2⟩⟩
theorem TX.keep {X:Nat->Prop} {w w':World} {T M:Nat} {t:PT} (h:TX X w T M t) (hk:KeepX X w w'):TX X w' T M t:=by
 obtain ⟨O,ck,src,h⟩:=h;exact ⟨O,ck,src,h.keep hk⟩
theorem TX.mono {X Y:Nat->Prop} {w:World} {T M:Nat} {t:PT} (h:TX X w T M t) (hX:∀ k,X k->Y k):TX Y w T M t:=by
 obtain ⟨O,ck,src,h⟩:=h;exact ⟨O,ck,src,h.mono hX⟩
theorem BytesX.cut {X:Nat->Prop} {w:World} {A:Option Addr} {c:Nat} {b:List UInt8} (h:BytesX X w A c b):BytesX (fun k=>X k/\k<w.heap.size) w A c b:=⟨h.rd,h.cap,h.long,fun h0 ad e=>⟨h.inX h0 ad e,(h.inX h0 ad e).2⟩⟩
theorem TX.cut {X:Nat->Prop} {w:World} {T M:Nat} {t:PT} (h:TX X w T M t):TX (fun k=>X k/\k<w.heap.size) w T M t:=by
 obtain ⟨O,ck,src,h⟩:=h;obtain ⟨A,c,ps,e1,e2,h1,h0,h2,h3⟩:=h.src
 exact ⟨O,ck,src,h.ne,⟨h.xT,h.lt.1⟩,⟨h.xM,h.lt.2⟩,h.blk,h.map,h.clk,h.over,fun e he=>⟨(h.page e he).1.cut.mono fun k hk=>⟨⟨hk.1.1,hk.2⟩,hk.1.2⟩,(h.page e he).2⟩,
  A,c,ps,e1,e2,h1,h0,fun hn ad e=>⟨⟨⟨(h2 hn ad e).1.1,(h2 hn ad e).2⟩,(h2 hn ad e).1.2⟩,(h2 hn ad e).2⟩,fun p hp=>(h3 p hp).cut.mono fun k hk=>⟨⟨hk.1.1,hk.2⟩,hk.1.2⟩⟩
theorem TXo.set_ {X:Nat->Prop} {w:World} {T M:Nat} {O:List KE} {ck:Nat} {src:Value} {t:PT} (h:TXo X w T M O ck src t) (o:Nat) (u:Value) {t':PT} (he:(txCs src M t).setIfInBounds o u=txCs src M t') (h1:t'.over=t.over) (h2:t'.src=t.src) :
 TXo X (w.setCell ⟨T,o,none⟩ u) T M O ck src t':=by
 have hk:KeepX (fun k=>X k/\k≠T/\k≠M) w (w.setCell ⟨T,o,none⟩ u):=⟨by simp [World.setCell],fun k hx _=>Below.heap_setCell w ⟨T,o,none⟩ u k hx.2.1⟩
 have hb:=h.blk.set_ o u;rw [he] at hb;exact ⟨h.ne,h.xT,h.xM,hb,(Below.heap_setCell w ⟨T,o,none⟩ u M (fun e=>h.ne e.symm)).trans h.map,h.clk,h1.trans h.over,fun e he=>⟨(h.page e he).1.keep hk,(h.page e he).2⟩,by rw [h2];exact h.src.keep hk⟩
theorem over_look (n:Nat):∀ (O:List KE) (i:Nat),lookO n (O.map fun e=>(e.nm,e.b))=(look n O i).map fun r=>r.2.b
 | [],_=>rfl
 | e::O,i=>by
  unfold look;simp only [List.map_cons,lookO];by_cases h:e.nm=n
  ·rw [if_pos h,if_pos h];rfl
  ·rw [if_neg h,if_neg h,over_look n O (i+1)]
theorem over_put {y:KE}:∀ {O:List KE} {i:Nat},look y.nm O i=none->(O++[y]).map (fun e=>(e.nm,e.b))=setO y.nm y.b (O.map fun e=>(e.nm,e.b))
 | [],_,_=>rfl
 | e::O,i,h=>by
  unfold look at h;by_cases hn:e.nm=y.nm
  ·rw [if_pos hn] at h;cases h
  ·rw [if_neg hn] at h;rw [List.cons_append,List.map_cons,List.map_cons,setO,if_neg hn,over_put h]
theorem over_set {y:KE}:∀ {O:List KE} {i j:Nat} {x:KE},look y.nm O i=some (j,x)->(O.set (j-i) y).map (fun e=>(e.nm,e.b))=setO y.nm y.b (O.map fun e=>(e.nm,e.b))
 | e::O,i,j,x,h=>by
  have h0:=h;unfold look at h;by_cases hn:e.nm=y.nm
  ·rw [if_pos hn] at h
   cases h
   rw [Nat.sub_self,List.set_cons_zero,List.map_cons,List.map_cons,setO,if_pos hn,hn]
  ·rw [if_neg hn] at h;have hs:=(look_spec _ _ _ _ _ h).1;rw [show j-i=(j-(i+1))+1 by omega,List.set_cons_succ,List.map_cons,List.map_cons,setO,if_neg hn,over_set h]
def withL (x:NX) (lsn:Nat):NX:={x with lsn:=lsn}
theorem NodeAt.withL {w:World} {B:Nat} {x:NX} (h:NodeAt w B x) (lsn:Nat):NodeAt w B (withL x lsn):=⟨h.cells,h.data,h.fit,h.many,h.long⟩
theorem TXo.laid {X:Nat->Prop} {w w':World} {T M:Nat} {O O':List KE} {ck ck':Nat} {src:Value} {t:PT} (h:TXo X w T M O ck src t) (hm:MapTo w w' M (O'.map KE.ent).toArray ck') {n:Nat} {b:List UInt8} (hc:(∀ e∈O',e.born<ck')/\(O'.map KE.born).Nodup) (ho:O'.map (fun e=>(e.nm,e.b))=setO n b t.over)
 (hp:∀ e∈O',BytesX (fun k=>X k/\k≠T/\k≠M) w e.A e.cap e.b/\e.b.length=256):TXo X w' T M O' ck' src {t with over:=setO n b t.over}:=by
 have hk:KeepX (fun k=>X k/\k≠T/\k≠M) w w':=⟨by rw [hm.size];exact nR _,fun k hx _=>hm.block k hx.2.2⟩
 exact ⟨h.ne,h.xT,h.xM,(hm.block T h.ne).trans h.blk,hm.map,hc,ho.symm,fun e he=>⟨(hp e he).1.keep hk,(hp e he).2⟩,h.src.keep hk⟩
theorem clk_put {O:List KE} {ck:Nat} {y:KE} (h:(∀ e∈O,e.born<ck)/\(O.map KE.born).Nodup) (hy:y.born=ck):(∀ e∈O++[y],e.born<ck+1)/\((O++[y]).map KE.born).Nodup:=by
 refine ⟨fun e he=>?_,?_⟩
 ·rcases List.mem_append.1 he with he | he
  ·have:=h.1 e he;omega
  ·obtain rfl:=List.mem_singleton.1 he;omega
 ·rw [List.map_append,List.nodup_append];refine ⟨h.2,by simp,fun a ha b hb e=>?_⟩;obtain ⟨x,hx,rfl⟩:=List.mem_map.1 ha;simp only [List.map_cons,List.map_nil,List.mem_singleton] at hb;have:=h.1 x hx;omega
theorem clk_set {O:List KE} {ck j n:Nat} {x y:KE} (h:(∀ e∈O,e.born<ck)/\(O.map KE.born).Nodup) (hl:look n O 0=some (j,x)) (hy:y.born=x.born):(∀ e∈O.set j y,e.born<ck)/\((O.set j y).map KE.born).Nodup:=by
 obtain ⟨_,hj,_⟩:=look_spec _ _ _ _ _ hl;simp only [Nat.sub_zero] at hj;refine ⟨fun e he=>?_,?_⟩
 ·rcases List.mem_or_eq_of_mem_set he with he | rfl
  ·exact h.1 e he
  ·rw [hy];exact h.1 x (mG hj)
 ·have e:(O.set j y).map KE.born=O.map KE.born:=by
   rw [List.map_set,hy];apply List.ext_getElem?;intro k;rw [List.getElem?_set];by_cases hk:j=k
   ·subst hk;rw [List.getElem?_map,hj];simp [(lS.1 hj).1]
   ·simp [hk]
  rw [e];exact h.2
theorem new_bytes {X:Nat->Prop} {w0 w:World} {T M base:Nat} {A:Option Addr} {c:Nat} {b:List UInt8} (ho:w.ownsRow base 5 1 (.slice A 256 c) 256 (bl b)) (hl:b.length=256) (h:T<w0.heap.size/\M<w0.heap.size) (hb:w0.heap.size<=base):BytesX (fun k=>moreX X w0 k/\k≠T/\k≠M) w A c b:=by
 obtain ⟨g,c',e,hc,hg,hr⟩:=own_big ho (by omega);simp only [Value.slice.injEq] at e;obtain ⟨rfl,_,rfl⟩:=e;refine ⟨by rw [hl];exact hr,by omega,by omega,fun _ ad had=>?_⟩
 cases had
 have hlt:=hr.2 (by omega);obtain ⟨ad,e,hlt,_⟩:=hlt
 cases e
 exact ⟨⟨.inr (by show w0.heap.size<=g;omega),by show g≠T;omega,by show g≠M;omega⟩,hlt⟩
theorem pages_or {X:Nat->Prop} {w:World} {T M:Nat} {O O':List KE} {ck:Nat} {src:Value} {t:PT} {y:KE} (h:TXo X w T M O ck src t) (hy:BytesX (fun k=>X k/\k≠T/\k≠M) w y.A y.cap y.b) (hy2:y.b.length=256) (hO:∀ e∈O',e∈O\/e=y):∀ e∈O',BytesX (fun k=>X k/\k≠T/\k≠M) w e.A e.cap e.b/\e.b.length=256:=by
 intro e he
 rcases hO e he with h1 | rfl
 ·exact h.page e h1
 ·exact ⟨hy,hy2⟩
def TM (T M:Nat):Nat->Prop:=fun k=>k=T\/k=M
theorem set_frX {X:Nat->Prop} {w:World} {T o:Nat} {u:Value} (hX:X T):Fr X w (w.setCell ⟨T,o,none⟩ u):=⟨rfl,rfl,rfl,by simp [World.setCell],fun k _ hk=>Below.heap_setCell w ⟨T,o,none⟩ u k (fun e=>hk (by rw [e];exact hX))⟩
theorem lay_fine {X:Nat->Prop} {w:World} {T M:Nat} {t:PT} (h:TX X w T M t) (n:Nat) (x:NX) (hx:NodeAt w w.heap.size x) (hf:(withL x t.lsn).n.Fit) :
 Calls Tryz.prog 43 #[.pointer (some ⟨T,0,none⟩),.int .u32 (n:Nat),x.val] w fun e w'=>e=.returned (.int .i64 (layE t x.n))/\TX (moreX X w) w' T M (layT t n x.n)/\Fr (TM T M) w w':=by
 obtain ⟨O,ck,src,h⟩:=h
 obtain ⟨w1,hw1⟩:∃ w1,w1=w.alloc (.cells (withL x t.lsn).cells 52):=⟨_,rfl⟩
 have hb0:Below w.heap.size w (w.alloc (.cells x.cells 52)):=(bR _ w).alloc (nR _) _
 have hT0:=((h.blk.below hb0 h.lt.1).cell 1)
 have hb1:Below w.heap.size w w1:=by rw [hw1];exact (bR _ w).alloc (nR _) _
 have hN:Blk w1 w.heap.size 52 (withL x t.lsn).cells:=by rw [hw1];exact Blk.new _ _ _
 have h1:=h.keep (KeepX.of_below hb1);have hP:=Put_any (withL x t.lsn) w1 (((hx.withL t.lsn).below hb1).mono hb1.size) (nR _) hf;rw [show putE (withL x t.lsn).n=layE t x.n from rfl] at hP;have HLT:layT t n x.n=if layE t x.n=0 then {t with over:=setO n (putP (withL x t.lsn).n) t.over,changed:=true} else t:=rfl
 obtain ⟨er,HER⟩:∃ e,Hid (layE t x.n=e):=⟨_,lH rfl⟩
 obtain ⟨bp,HBP⟩:∃ e,Hid (putP (withL x t.lsn).n=e):=⟨_,lH rfl⟩
 rw [HER.out] at hP HLT ⊢;rw [HBP.out] at hP HLT;rw [HLT];have hTW:Hid (∀ W,Below w1.heap.size w1 W->W.cell? ⟨T,6,none⟩=some (.map (some M))):=lH fun W hW=>(h1.blk.below hW h1.lt.1).cell 6;unfold NX.val nodeV NX.cells withL at *;dsimp only at hP hN hw1;have HW1:=lH hw1;have HN:=lH hN;have HP:=lH hP;have HH:=lH (aI h1 hx);have hT1:(txCs src M t)[1]?=some (.int .u64 (t.lsn:Nat)):=rfl;rw [hT1] at hT0;have HLT2:=lH h.lt;clear hw1 hN hP h hx hT1;by_cases he:er=0
 ·subst he;rw [if_pos rfl]
  cases hlk:look n O 0 with
  | none =>
   have HLK:=lH hlk;clear hlk;go_enter Tryz.func43,Tryz.ntmps43
   go_wp2_with (first
    | (rw [<-HW1.out];refine wpList_load_row rfl 52 (.tmp 5) rfl w.heap.size rfl _ _ _ _ HN.out Tryz.underlying52 rfl (by kernel_rfl) ?_)
    | (go_at_call 80;refine HP.out.mono ?_;rintro e w3 ⟨A,m,c,rfl,ho0,hb3⟩;obtain ⟨rfl,ho⟩:=ho0 rfl;clear ho0;have hT3:=hTW.out _ hb3;have h3:=(HH.out.1.keep (KeepX.of_below hb3)).mono (Y:=moreX X w) (fun k hk=>.inl hk);have hl256:bp.length=256:=(bl_len bp).symm.trans ho.1;have hnew:BytesX (fun k=>moreX X w k/\k≠T/\k≠M) w3 A c bp:=new_bytes ho hl256 HLT2.out hb1.size;have hpg:=fun (O':List KE)=>pages_or (O':=O') (y:=⟨n,A,c,bp,ck⟩) h3 hnew hl256)
    | (refine wpList_put rfl (.tmp 24) (.tmp 25) (.tmp 26) rfl (y:=⟨n,A,c,bp,ck⟩) rfl rfl (by show Value.slice A 256 c=Value.slice A bp.length c;rw [hl256]) h3.map HLK.out rfl ?_;intro w4 hm4;have h4:=h3.laid hm4 (b:=bp) (clk_put h3.clk rfl) (by rw [over_put (y:=⟨n,A,c,bp,ck⟩) HLK.out,<-h3.over]) (hpg _ (fun e he=>by rcases List.mem_append.1 he with he | he;exact .inl he;exact .inr (List.mem_singleton.1 he)));have f7:w4.cell? ⟨T,7,none⟩=some (.bool t.changed):=h4.blk.cell 7;have f7f:=h4.blk.frozen 7))
   go_ret;have hb:=hb1.trans (hb3.mono hb1.size);have h5:=h4.set_ 7 (.bool true) (t':={t with over:=setO n bp t.over,changed:=true}) rfl rfl rfl;refine ⟨rfl,⟨_,_,src,h5⟩,?_⟩;exact (Fr.of_below (X:=TM T M) hb).trans ((hm4.frX (X:=TM T M) (Fr.refl _ _) (.inr (.inr rfl))).trans (set_frX (.inl rfl)))
  | some r =>
   obtain ⟨j,y0⟩:=r;have HLK:=lH hlk;clear hlk;go_enter Tryz.func43,Tryz.ntmps43
   go_wp2_with (first
    | (rw [<-HW1.out];refine wpList_load_row rfl 52 (.tmp 5) rfl w.heap.size rfl _ _ _ _ HN.out Tryz.underlying52 rfl (by kernel_rfl) ?_)
    | (go_at_call 80;refine HP.out.mono ?_;rintro e w3 ⟨A,m,c,rfl,ho0,hb3⟩;obtain ⟨rfl,ho⟩:=ho0 rfl;clear ho0;have hT3:=hTW.out _ hb3;have h3:=(HH.out.1.keep (KeepX.of_below hb3)).mono (Y:=moreX X w) (fun k hk=>.inl hk);have hl256:bp.length=256:=(bl_len bp).symm.trans ho.1;have hnew:BytesX (fun k=>moreX X w k/\k≠T/\k≠M) w3 A c bp:=new_bytes ho hl256 HLT2.out hb1.size;have hpg:=fun (O':List KE)=>pages_or (O':=O') (y:=⟨n,A,c,bp,y0.born⟩) h3 hnew hl256)
    | (refine wpList_set rfl (.tmp 24) (.tmp 25) (.tmp 26) rfl (y:=⟨n,A,c,bp,y0.born⟩) rfl rfl (by show Value.slice A 256 c=Value.slice A bp.length c;rw [hl256]) h3.map HLK.out rfl ?_;intro w4 hm4;have h4:=h3.laid hm4 (b:=bp) (clk_set h3.clk HLK.out rfl) (by have:=over_set (y:=⟨n,A,c,bp,y0.born⟩) HLK.out;rw [Nat.sub_zero] at this;rw [this,<-h3.over]) (hpg _ (fun e he=>List.mem_or_eq_of_mem_set he));have f7:w4.cell? ⟨T,7,none⟩=some (.bool t.changed):=h4.blk.cell 7;have f7f:=h4.blk.frozen 7))
   go_ret;have hb:=hb1.trans (hb3.mono hb1.size);have h5:=h4.set_ 7 (.bool true) (t':={t with over:=setO n bp t.over,changed:=true}) rfl rfl rfl;refine ⟨rfl,⟨_,_,src,h5⟩,?_⟩;exact (Fr.of_below (X:=TM T M) hb).trans ((hm4.frX (X:=TM T M) (Fr.refl _ _) (.inr (.inr rfl))).trans (set_frX (.inl rfl)))
 ·have d1:(er==0)=false:=by simpa using he
  rw [if_neg he];go_enter Tryz.func43,Tryz.ntmps43
  go_wp2_with (first
   | (rw [<-HW1.out];refine wpList_load_row rfl 52 (.tmp 5) rfl w.heap.size rfl _ _ _ _ HN.out Tryz.underlying52 rfl (by kernel_rfl) ?_)
   | (go_at_call 80;refine HP.out.mono ?_;rintro e w3 ⟨A,m,c,rfl,_,hb3⟩))
  go_ret;have hb:=hb1.trans (hb3.mono hb1.size);exact ⟨rfl,⟨O,ck,src,(HH.out.1.keep (KeepX.of_below hb3)).mono fun k hk=>.inl hk⟩,Fr.of_below hb⟩
theorem TX.two {X:Nat->Prop} {w:World} {T M:Nat} {t:PT} (h:TX X w T M t):X T/\X M:=by
 obtain ⟨O,ck,src,h⟩:=h;exact ⟨h.xT,h.xM⟩
theorem TX.tm {X:Nat->Prop} {w:World} {T M:Nat} {t:PT} (h:TX X w T M t) {a b:World} (hf:Fr (TM T M) a b):Fr X a b:=hf.mono fun k _ hk=>by
 rcases hk with rfl | rfl
 ·exact h.two.1
 ·exact h.two.2
theorem TX.no {X:Nat->Prop} {w:World} {T M:Nat} {t:PT} (h:TX X w T M t) {k:Nat} (hk:¬ X k):¬ TM T M k:=fun e=>by
 rcases e with rfl | rfl
 ·exact hk h.two.1
 ·exact hk h.two.2
theorem lay_any {X:Nat->Prop} {w:World} {T M:Nat} {t:PT} (h:TX X w T M t) (n:Nat) (x:NX) (hx:NodeAt w w.heap.size x) (hf:(withL x t.lsn).n.Fit) :
 Calls Tryz.prog 43 #[.pointer (some ⟨T,0,none⟩),.int .u32 (n:Nat),x.val] w fun e w'=>e=.returned (.int .i64 (layE t x.n))/\TX (moreX X w) w' T M (layT t n x.n)/\Fr X w w' :=
 (lay_fine h n x hx hf).mono fun _ _ ⟨a,b,c⟩=>⟨a,b,h.tm c⟩
theorem isPage_any {X:Nat->Prop} {w:World} {T M:Nat} {t:PT} (h:TX X w T M t) (n:Nat) :
 Calls Tryz.prog 53 #[.pointer (some ⟨T,0,none⟩),.int .u32 (n:Nat)] w fun e w'=>e=.returned (.int .i64 (isPageT t n))/\w'=w:=by
 obtain ⟨O,ck,src,h⟩:=h;have f3:w.cell? ⟨T,3,none⟩=some (.int .u32 (t.pages:Nat)):=h.blk.cell 3;by_cases h0:n=0
 ·have e:isPageT t n=2:=by unfold isPageT;rw [if_pos (.inl h0)]
  rw [e];subst h0;go_enter Tryz.func53,Tryz.ntmps53;go_wp2;go_ret;exact ⟨rfl,rfl⟩
 ·have z0:((n:Int)==0)=false:=by simpa using h0
  by_cases h1:t.pages<=n
  ·have e:isPageT t n=2:=by unfold isPageT;rw [if_pos (.inr h1)]
   rw [e];have d1:decide ((t.pages:Int)<=(n:Int))=true:=dT (by omega);have d2:decide (t.pages<=n)=true:=dT h1;go_enter Tryz.func53,Tryz.ntmps53;go_wp2;go_ret;exact ⟨rfl,rfl⟩
  ·have e:isPageT t n=0:=by unfold isPageT;rw [if_neg (by rintro (h | h);exact h0 h;exact h1 h)]
   rw [e];have d1:decide ((t.pages:Int)<=(n:Int))=false:=dF (by omega);have d2:decide (t.pages<=n)=false:=dF h1;go_enter Tryz.func53,Tryz.ntmps53;go_wp2;go_ret;exact ⟨rfl,rfl⟩
def ErrV (B:Nat) (w:World) (op nm:ByteArray) (k:Int) (v:Value):Prop :=
 (k=0/\v=.nilIface)\/(k≠0/\∃ r,v=.iface 134 (.pointer (some ⟨r,0,none⟩))/\B<=r/\w.heap[r]?=some (.cells #[.string op,.string nm,.iface 80 (.int .i64 k)] 138 (0,0)))
theorem ErrV.below {B B':Nat} {w w':World} {op nm:ByteArray} {k:Int} {v:Value} (h:ErrV B w op nm k v) (hb:Below w.heap.size w w'):ErrV B w' op nm k v:=by
 rcases h with h | ⟨h1,r,e,hB,hr⟩
 ·exact .inl h
 ·exact .inr ⟨h1,r,e,hB,(hb.block r (aS.1 hr).1).trans hr⟩
theorem ErrV.lo {B B':Nat} {w:World} {op nm:ByteArray} {k:Int} {v:Value} (h:ErrV B w op nm k v) (hb:B'<=B):ErrV B' w op nm k v :=
 h.imp id fun ⟨h1,r,e,hB,hr⟩=>⟨h1,r,e,nT hb hB,hr⟩
theorem fault_any (op nm:ByteArray) (k:Int) (w:World):Calls Tryz.prog 51 #[.string op,.string nm,.int .i64 k] w fun e w'=>∃ v,e=.returned v/\ErrV w.heap.size w' op nm k v/\Below w.heap.size w w':=by
 by_cases h:k=0
 ·subst h;go_enter Tryz.func51,Tryz.ntmps51;go_wp2;go_ret;exact ⟨_,rfl,.inl ⟨rfl,rfl⟩,bR _ _⟩
 ·have k0:(k==0)=false:=by simpa using h
  go_enter Tryz.func51,Tryz.ntmps51;go_wp2;go_ret;exact ⟨_,rfl,.inr ⟨h,w.heap.size,rfl,nR _,heap_alloc_new _ _⟩,(bR _ _).alloc (nR _) _⟩
end
end Go.Proofs.YtenfkghoolegfaaGreatDoor
namespace Go.Proofs.YtenfkghoolegfaaGreatDoor
open Go.RowKit
theorem bytes_over {X:Nat->Prop} {w:World} {T M:Nat} {t:PT} (h:TX X w T M t) (n:Nat) (b:List UInt8) (hn:n<t.pages) (hl:lookO n t.over=some b) :
 Calls Tryz.prog 65 #[.pointer (some ⟨T,0,none⟩),.int .u32 (n:Nat)] w fun e w'=>b.length=256/\∃ A c,e=.returned (.tuple #[.slice A 256 c,.int .i64 0])/\w'.ownsRow w.heap.size 5 1 (.slice A 256 c) 256 (bl b)/\Below w.heap.size w w':=by
 obtain ⟨O,ck,src,h⟩:=h;have f3:w.cell? ⟨T,3,none⟩=some (.int .u32 (t.pages:Nat)):=h.blk.cell 3;have f6:w.cell? ⟨T,6,none⟩=some (.map (some M)):=h.blk.cell 6;rw [h.over,over_look n O 0] at hl
 cases hk:look n O 0 with
 | none=>rw [hk] at hl;cases hl
 | some r =>
  obtain ⟨j,y⟩:=r;rw [hk] at hl;simp only [Option.map_some,Option.some.injEq] at hl;subst hl;obtain ⟨_,hj,hnm⟩:=look_spec _ _ _ _ _ hk;obtain ⟨hby,h256⟩:=h.page y (mG hj);obtain ⟨a,ha,_⟩:=hby.rd.2 (by omega);have hrd:=hby.rd;rw [ha,h256] at hrd;have hC:=BClone_some a y.cap (bl y.b) (bl_one _) w hrd (nR _) (by omega);have d1:decide ((t.pages:Int)<=(n:Int))=false:=dF (by omega);have d2:decide (t.pages<=n)=false:=dF (by omega);have HH:=lH (aI h hk)
  have hyv:y.val=.slice (some a) 256 y.cap:=by unfold KE.val;rw [ha,h256]
  have H256:=lH h256;clear h hk hrd hby hj hnm h256 ha;go_enter Tryz.func65,Tryz.ntmps65
  go_wp2_with (first
   | (refine wpList_look_some rfl (.tmp 15) (.tmp 16) rfl rfl rfl HH.out.1.map HH.out.2 ?_;rw [hyv])
   | (go_at_call 68;refine hC.mono ?_;rintro e w3 ⟨A',c',rfl,ho3,hb3⟩))
  go_ret2;exact ⟨H256.out,A',c',rfl,ho3,hb3⟩
end Go.Proofs.YtenfkghoolegfaaGreatDoor
namespace Go.Proofs
open Go.Shelf
def PowAt (w:World):Prop:=(match w.heap[(1:Nat)]? with
 | some (.cells cs _ _)=>some cs
 | _=>none)=some (Lib.pow10Tab.map fun z=>Value.int .u64 z).toArray
theorem PowAt.of {w w1:World} (h:PowAt w) (hk:1<w.heap.size->w1.heap[(1:Nat)]?=w.heap[(1:Nat)]?):PowAt w1:=by
 unfold PowAt at h ⊢;by_cases hl:1<w.heap.size
 ·rw [hk hl];exact h
 ·rw [Array.getElem?_eq_none (by omega)] at h;cases h
def Tryz.lays283_ren:Go.Shelf.Ren:=⟨fun | 283=>151 | n=>n,fun | 3=>3 | 9=>9 | 4=>4 | n=>n,fun | n=>n⟩
theorem Tryz.lays283:Go.Proofs.Lays.n283 Tryz.prog Tryz.lays283_ren:={
 mixed:=by kernel_rfl
 f283:=Tryz.func151.trans (congrArg some (by kernel_rfl))
 t3:=Tryz.underlying3
 a3:=Tryz.isAgg3
 z3:=Tryz.sizeOf3
 v3:=Tryz.zeroValue3
 t4:=Tryz.underlying4
 a4:=Tryz.isAgg4
 z4:=Tryz.sizeOf4
 v4:=Tryz.zeroValue4
 t9:=Tryz.underlying9
 a9:=Tryz.isAgg9
 z9:=Tryz.sizeOf9
 v9:=Tryz.zeroValue9}
open Go.Lib in
theorem Tryz.internal_strconv_small (i:Nat) (h:i<100) (w:World) :
 Calls Tryz.prog 151 #[.int .i64 i] w fun e w'=>e=.returned (.string ⟨(Lib.decDigits i).toArray⟩)/\w'=w:=Any.internal_strconv_small Tryz.lays283 i h w
def Tryz.laysM284_ren:Go.Shelf.Ren:=⟨fun | 284=>152 | 129=>165 | 317=>189 | 318=>190 | n=>n,fun | 53=>34 | 3=>3 | 212=>277 | 0=>0 | 4=>4 | 46=>203 | 5=>5 | 9=>9 | n=>n,fun | 17=>1 | n=>n⟩
theorem Tryz.laysM284:Go.Proofs.LaysM.n284 Tryz.prog Tryz.laysM284_ren:={
 mixed:=by kernel_rfl
 f129:=Tryz.func165.trans (congrArg some (by kernel_rfl))
 f284:=Tryz.func152.trans (congrArg some (by kernel_rfl))
 f317:=Tryz.func189.trans (congrArg some (by kernel_rfl))
 f318:=Tryz.func190.trans (congrArg some (by kernel_rfl))
 t0:=Tryz.underlying0
 a0:=Tryz.isAgg0
 z0:=Tryz.sizeOf0
 v0:=Tryz.zeroValue0
 t3:=Tryz.underlying3
 a3:=Tryz.isAgg3
 z3:=Tryz.sizeOf3
 v3:=Tryz.zeroValue3
 t4:=Tryz.underlying4
 a4:=Tryz.isAgg4
 z4:=Tryz.sizeOf4
 v4:=Tryz.zeroValue4
 t5:=Tryz.underlying5
 a5:=Tryz.isAgg5
 z5:=Tryz.sizeOf5
 v5:=Tryz.zeroValue5
 t9:=Tryz.underlying9
 a9:=Tryz.isAgg9
 z9:=Tryz.sizeOf9
 v9:=Tryz.zeroValue9
 t46:=Tryz.underlying203
 a46:=Tryz.isAgg203
 z46:=Tryz.sizeOf203
 v46:=Tryz.zeroValue203
 t53:=Tryz.underlying34
 a53:=Tryz.isAgg34
 z53:=Tryz.sizeOf34
 v53:=Tryz.zeroValue34
 t212:=Tryz.underlying277
 a212:=Tryz.isAgg277
 z212:=Tryz.sizeOf277
 v212:=Tryz.zeroValue277
 g17:=by kernel_rfl
 i0:=by kernel_rfl
 i3:=by kernel_rfl
 i4:=by kernel_rfl
 i5:=by kernel_rfl
 i9:=by kernel_rfl
 i46:=by kernel_rfl
 i53:=by kernel_rfl
 i212:=by kernel_rfl
 m17:=by kernel_rfl}
open Go.Lib in
theorem Tryz.internal_strconv_numDigits (u:Nat) (h1:1<=u) (h2:u<18446744073709551616) (w:World) (htab:PowAt w) :
 Calls Tryz.prog 152 #[.int .u64 u] w fun e w'=>e=.returned (.int .i64 (Lib.nDigits u))/\w'=w:=Any.internal_strconv_numDigits Tryz.laysM284 u h1 h2 w (by unfold Lib.TabIs World.var?;generalize hq:Program.globalNamed Tryz.prog _=q;have e:q=some 1:=by {rw [<-hq];kernel_rfl};rw [e];exact htab)
def Tryz.lays285_ren:Go.Shelf.Ren:=⟨fun | 285=>153 | n=>n,fun | 37=>23 | 53=>34 | 3=>3 | 4=>4 | 51=>22 | 9=>9 | 5=>5 | 0=>0 | n=>n,fun | n=>n⟩
theorem Tryz.lays285:Go.Proofs.Lays.n285 Tryz.prog Tryz.lays285_ren:={
 mixed:=by kernel_rfl
 f285:=Tryz.func153.trans (congrArg some (by kernel_rfl))
 t0:=Tryz.underlying0
 a0:=Tryz.isAgg0
 z0:=Tryz.sizeOf0
 v0:=Tryz.zeroValue0
 t3:=Tryz.underlying3
 a3:=Tryz.isAgg3
 z3:=Tryz.sizeOf3
 v3:=Tryz.zeroValue3
 t4:=Tryz.underlying4
 a4:=Tryz.isAgg4
 z4:=Tryz.sizeOf4
 v4:=Tryz.zeroValue4
 t5:=Tryz.underlying5
 a5:=Tryz.isAgg5
 z5:=Tryz.sizeOf5
 v5:=Tryz.zeroValue5
 t9:=Tryz.underlying9
 a9:=Tryz.isAgg9
 z9:=Tryz.sizeOf9
 v9:=Tryz.zeroValue9
 t37:=Tryz.underlying23
 a37:=Tryz.isAgg23
 z37:=Tryz.sizeOf23
 v37:=Tryz.zeroValue23
 t51:=Tryz.underlying22
 a51:=Tryz.isAgg22
 z51:=Tryz.sizeOf22
 v51:=Tryz.zeroValue22
 t53:=Tryz.underlying34
 a53:=Tryz.isAgg34
 z53:=Tryz.sizeOf34
 v53:=Tryz.zeroValue34}
open Go.RowKit Go.Sort Go.Lib in
theorem Tryz.internal_strconv_formatBase10 (blk off cap:Nat) (u:Nat) (d:Array UInt8) (w:World) (hH:Holds (fun (b:UInt8)=>Value.int .u8 (b.toNat:Int)) w blk off d) (hu:u<10 ^ d.size) (hu64:u<18446744073709551616) (hsz:d.size<4611686018427387904) :
 Calls Tryz.prog 153 #[.slice (some ⟨blk,off,none⟩) d.size cap,.int .u64 u] w fun e w' =>
  e=.returned (.tuple #[])/\∃ (n v':Nat) (dk:Array UInt8),w'=(putRow (fun (b:UInt8)=>Value.int .u8 (b.toNat:Int)) w blk off dk).drewN n/\FmtInv d.size u 0 v' dk:=Any.internal_strconv_formatBase10 Tryz.lays285 blk off cap u d w hH hu hu64 hsz
end Go.Proofs
namespace Go.Proofs.YtenfkghoolegfaaGreatDoor
section
open Go.Shelf Go.RowKit Go.Sort Go.Lib
theorem holds_zero0 (w:World) (T:TypeId) (nd:Nat) (hs:nd<=24):Holds (fun (b:UInt8)=>Value.int .u8 (b.toNat:Int)) (w.alloc (.cells zeros24 T)) w.heap.size 0 (Array.replicate nd (0:UInt8)):=fun j hj=>by
 have hj':j<nd:=by simpa using hj
 refine ⟨?_,World.frozen?_alloc_new _ _ _ _⟩;rw [World.cell?_alloc_new,zeros24_at _ (by omega),getElem!_pos _ j hj];simp
theorem fin_pos0 (w:World) (o:Obj) (dk:Array UInt8) (k:Nat):∃ os,(putRow (fun (b:UInt8)=>Value.int .u8 (b.toNat:Int)) (w.alloc o) w.heap.size 0 dk).drewN k=grow (w.drewN k) os:=by
 rw [alloc_eq_grow];obtain ⟨os',_,e⟩:=putRow_grow_new (fun (b:UInt8)=>Value.int .u8 (b.toNat:Int)) w #[o] w.heap.size 0 dk (nR _);exact ⟨os',by rw [e];rfl⟩
theorem fmtUint_in (u:Nat) (hu64:u<18446744073709551616) (w:World) (htab:PowAt w) :
 Calls Tryz.prog 107 #[.int .u64 u,.int .i64 10] w fun e w'=>e=.returned (.string ⟨(Lib.decDigits u).toArray⟩)/\Below w.heap.size w w':=by
 have e192:∀ args w,(callFunc 151 args).run Tryz.prog w=.ok (.enter 151 args) w:=enters_of Tryz.func151 (by kernel_rfl) rfl;have e193:∀ args w,(callFunc 152 args).run Tryz.prog w=.ok (.enter 152 args) w:=enters_of Tryz.func152 (by kernel_rfl) rfl;have e194:∀ args w,(callFunc 153 args).run Tryz.prog w=.ok (.enter 153 args) w:=enters_of Tryz.func153 (by kernel_rfl) rfl;by_cases hs:u<100
 ·go_enter Tryz.func107,Tryz.ntmps107
  go_wp2_with (go_at_call 151;refine (Tryz.internal_strconv_small u hs _).mono ?_;rintro e w' ⟨rfl,rfl⟩)
  go_ret;exact ⟨rfl,bR _ _⟩
 ·have hu1:1<=u:=by omega
  have hnd20:Lib.nDigits u<=20:=by have:=Lib.numDigits_eq u hu1 hu64;split at this <;> omega
  have hb3:Lib.nDigits u<=23:=by omega
  have hal:Tryz.prog.arrayLen 244=24:=by simp [Program.arrayLen,Tryz.underlying244]
  have hsl1:∀ W,(Instr.sliceAt 244 (.pointer (some ⟨w.heap.size,0,none⟩)) none (some (.int .i64 (Lib.nDigits u:Int))) none).run Tryz.prog W=.ok (.slice (some ⟨w.heap.size,0,none⟩) (Lib.nDigits u) 24) W:=fun W=>by
   rw [run_sliceAt_array_h W 244 ⟨w.heap.size,0,none⟩ (by simp [Program.arrayLen,Program.elem,Tryz.underlying244]) .i64 (Lib.nDigits u:Int) (by omega) (by rw [hal];omega)];go_simp
  have hH0:=holds_zero0 w 244 (Lib.nDigits u) (by omega);have hfmt:=Tryz.internal_strconv_formatBase10 w.heap.size 0 24 u (Array.replicate (Lib.nDigits u) 0) (w.alloc (.cells Lib.zeros24 244)) hH0 (by rw [Array.size_replicate];exact Lib.lt_pow_nDigits u) hu64 (by rw [Array.size_replicate];omega);rw [Array.size_replicate] at hfmt;have HH0:=lH hH0;clear hH0 hal;go_enter Tryz.func107,Tryz.ntmps107
  go_wp2_with (first
   | (go_at_call 152;refine (Tryz.internal_strconv_numDigits u hu1 hu64 _ (htab.of fun hl=>Below.heap_alloc _ _ _ hl)).mono ?_;rintro e w' ⟨rfl,rfl⟩))
  go_at_call 153
  refine hfmt.mono ?_;rintro e w' ⟨rfl,k,v',dk,rfl,hF⟩
  have hcv:(convert 23 9 (.slice (some ⟨w.heap.size,0,none⟩) (Lib.nDigits u) 24)).run Tryz.prog ((putRow (fun (b:UInt8)=>Value.int .u8 (b.toNat:Int)) (w.alloc (.cells Lib.zeros24 244)) w.heap.size 0 dk).drewN k)=.ok (.string ⟨(Lib.decDigits u).toArray⟩) ((putRow (fun (b:UInt8)=>Value.int .u8 (b.toNat:Int)) (w.alloc (.cells Lib.zeros24 244)) w.heap.size 0 dk).drewN k):=by
   have h:=run_convert_bytes_back (P:=Tryz.prog) ((putRow (fun (b:UInt8)=>Value.int .u8 (b.toNat:Int)) (w.alloc (.cells Lib.zeros24 244)) w.heap.size 0 dk).drewN k) 23 9 5 ⟨w.heap.size,0,none⟩ 24 (Lib.decDigits u) Tryz.underlying23 Tryz.underlying5 Tryz.underlying9 (fun j hj=>by
    rw [Lib.row_is_numeral hF j hj,Lib.add_plain,World.cell?_drewN]
    exact cell?_putRow (fun (b:UInt8)=>Value.int .u8 (b.toNat:Int)) _ w.heap.size 0 _ dk HH0.out (by rw [hF.size,Array.size_replicate]) j (by rw [hF.size];rw [Lib.decDigits_length] at hj;exact hj))
   rw [Lib.decDigits_length] at h;exact h
  go_wp2;go_ret;obtain ⟨os,eo⟩:=fin_pos0 w (.cells Lib.zeros24 244) dk k;refine ⟨rfl,?_⟩;rw [eo];exact below_grow _ w (nR _) k os
theorem fmtUint (u:Nat) (hu64:u<18446744073709551616) (w:World) (htab:PowAt w) :
 Calls Tryz.prog 85 #[.int .u64 u,.int .i64 10] w fun e w'=>e=.returned (.string ⟨(Lib.decDigits u).toArray⟩)/\Below w.heap.size w w':=by
 have e153:∀ args w,(callFunc 107 args).run Tryz.prog w=.ok (.enter 107 args) w:=enters_of Tryz.func107 (by kernel_rfl) rfl;go_enter Tryz.func85,Tryz.ntmps85
 go_wp2_with (go_at_call 107;refine (fmtUint_in u hu64 _ htab).mono ?_;rintro e w' ⟨rfl,hb⟩)
 go_ret;exact ⟨rfl,hb⟩
end
section
open Go.RowKit
theorem digits_any (n:Nat) (hn:n<4294967296) (w:World) (htab:PowAt w):Calls Tryz.prog 54 #[.int .u32 (n:Nat)] w fun e w'=>e=.returned (.string ⟨(Lib.decDigits n).toArray⟩)/\Below w.heap.size w w':=by
 have hwu:IntKind.u64.wrap (n:Int)=(n:Int):=by rw [IntKind.wrap_u64];omega
 have hF:=fmtUint n (by omega) w htab;clear htab;go_enter Tryz.func54,Tryz.ntmps54
 go_wp2_with (go_at_call 85;refine hF.mono ?_;rintro e w2 ⟨rfl,hb⟩)
 go_ret;exact ⟨rfl,hb⟩
theorem node_over {X:Nat->Prop} {w:World} {T M:Nat} {t:PT} (h:TX X w T M t) (n:Nat) (b:List UInt8) (hn:n<t.pages) (hl:lookO n t.over=some b) (hR:openE b=0->ReadC (kindB b) (lsnB b) (restB b)) {x:PN} (hg:getP b=.ok x) :
 Calls Tryz.prog 84 #[.pointer (some ⟨T,0,none⟩),.int .u32 (n:Nat)] w fun e w'=>∃ y:NX,y.n=x/\e=.returned (.tuple #[y.val,.int .i64 0])/\NodeAt w' w'.heap.size y/\NodeLo w.heap.size y/\Below w.heap.size w w':=by
 obtain ⟨w1,hw1⟩:∃ w1,w1=w.alloc (.cells zeroCs 52):=⟨_,rfl⟩
 have hb1:Below w.heap.size w w1:=by rw [hw1];exact (bR _ w).alloc (nR _) _
 have hN1:Blk w1 w.heap.size 52 zeroCs:=by rw [hw1];exact Blk.new _ _ _
 have hB:=bytes_over (h.keep (KeepX.of_below hb1)) n b hn hl;have HG:Hid (∀ (W:World) (A:Option Addr) (c:Nat),b.length=256->W.ownsRow w1.heap.size 5 1 (.slice A 256 c) 256 (bl b)->_):=lH fun W A c hb256 ho=>Get_of (B:=W.heap.size) A c b W (nR _) (by have:=Reads.of_own ho;rwa [hb256]) (by have:=own_big ho (by omega);obtain ⟨g,c',e,hc,_⟩:=this;simp only [Value.slice.injEq] at e;omega) hR;have HX:=lH hg;unfold zeroCs at hw1 hN1;have HW1:=lH hw1;have HN1:=lH hN1;clear hw1 hN1 h hg hR;go_enter Tryz.func84,Tryz.ntmps84
 go_wp2_with (rw [<-HW1.out];go_at_call 65;refine hB.mono ?_;rintro e w2 ⟨hb256,A,c,rfl,ho,hb2⟩;have hG:=HG.out _ _ _ hb256 ho;rw [hb256] at hG)
 go_at_call 69
 refine hG.mono ?_;rintro e w3 ⟨hr,hb3⟩;rw [HX.out] at hr;obtain ⟨y,hy,rfl,hya,hylo⟩:=hr;have hb23:Below w1.heap.size w1 w3:=hb2.trans (hb3.mono hb2.size);have hN3:=HN1.out.below hb23 HN1.out.lt;unfold NX.val nodeV
 go_wp2_with (refine wpList_store_row rfl 52 (.tmp 4) (.tmp 20) rfl w.heap.size _ rfl rfl 52 _ hN3 (by kernel_rfl) rfl (by simp [Value.oneCell']) ?_)
 refine bodyPost_ret (rT rfl _ _ w.heap.size 52 _ (0,0) _ rfl (setRow_heap _ _ _ _ _ _ hN3) Tryz.underlying52 rfl (by kernel_rfl)) rfl ?_;have hb4:=hb1.trans (hb23.mono hb1.size);have hlt:w.heap.size<w1.heap.size:=HN1.out.lt;refine ⟨y,hy,rfl,?_,hylo.mono (nT hb1.size hb2.size),hb4.trans ((fS _ w.heap.size _).below (B:=w.heap.size) hb4.size (fun k hk=>by omega))⟩;rw [size_setRow];exact hya.fr (fS _ _ _) (nR _) hylo (fun k hk=>by have:=hb2.size;omega)
theorem reuse_ok {X:Nat->Prop} {w:World} {T M:Nat} {t:PT} (h:TX X w T M t) (b:List UInt8) (hn:t.free<t.pages) (hl:lookO t.free t.over=some b) (hR:openE b=0->ReadC (kindB b) (lsnB b) (restB b)) {x:PN} (hg:getP b=.ok x) (hk:x.kind=5) (hx:x.next<t.pages) :
 Calls Tryz.prog 52 #[.pointer (some ⟨T,0,none⟩)] w fun e w'=>e=.returned (.tuple #[.int .u32 (t.free:Nat),.int .i64 0])/\TX (moreX X w) w' T M {t with free:=x.next,changed:=true}/\Fr X w w':=by
 have hN:=node_over h t.free b hn hl hR hg;obtain ⟨O,ck,src,h⟩:=h;have f4:w.cell? ⟨T,4,none⟩=some (.int .u32 (t.free:Nat)):=h.blk.cell 4;have HX:=lH (aI h (aI hk hx));clear h hl hR hg hk;go_enter Tryz.func52,Tryz.ntmps52
 go_wp2_with (go_at_call 84;refine hN.mono ?_;rintro e w3 ⟨y,hy,rfl,_,_,hb3⟩;unfold NX.val nodeV)
 have hyk:y.kind=5:=by have:=HX.out.2.1;rw [<-hy] at this;exact this
 have hyn:y.next=x.next:=by rw [<-hy];rfl
 obtain ⟨W,hW⟩:∃ W,W=w3.alloc (.cells y.cells 52):=⟨_,rfl⟩
 have hbW:Below w.heap.size w W:=by rw [hW];exact hb3.alloc hb3.size _
 have hBW:Blk W w3.heap.size 52 y.cells:=by rw [hW];exact Blk.new _ _ _
 have g0:W.cell? ⟨w3.heap.size,0,none⟩=some (.int .i64 5):=(hBW.cell 0).trans (by rw [<-hyk];rfl);have g3:W.cell? ⟨w3.heap.size,3,none⟩=some (.int .u32 (x.next:Nat)):=(hBW.cell 3).trans (by rw [<-hyn];rfl);have hTW:=HX.out.1.keep (KeepX.of_below hbW);have p3:W.cell? ⟨T,3,none⟩=some (.int .u32 (t.pages:Nat)):=hTW.blk.cell 3;unfold NX.cells at hW;rw [<-hW];have d1:decide ((t.pages:Int)<=(x.next:Int))=false:=dF (by omega);have d2:decide (t.pages<=x.next)=false:=dF (by omega);have z1:((5:Int) != 5)=false:=rfl;clear hW hBW hN
 go_quiet (fail)
 obtain ⟨V,hV⟩:∃ V,W.drewN nq=V:=⟨_,rfl⟩
 have hbV:Below w.heap.size w V:=by rw [<-hV];exact ⟨hbW.os,hbW.tape,hbW.output,hbW.size,hbW.block⟩
 have hTV:=HX.out.1.keep (KeepX.of_below hbV)
 have g3':V.cell? ⟨w3.heap.size,3,none⟩=some (.int .u32 (x.next:Nat)):=by rw [<-hV];exact g3
 have q4:V.cell? ⟨T,4,none⟩=some (.int .u32 (t.free:Nat)):=hTV.blk.cell 4;have q4f:=hTV.blk.frozen 4;have q7:V.cell? ⟨T,7,none⟩=some (.bool t.changed):=hTV.blk.cell 7;have q7f:=hTV.blk.frozen 7;rw [hV];clear hV g0 g3 p3 hTW;have HTV:=lH hTV;clear hTV;go_wp2;go_ret2;have h1:=HTV.out.set_ 4 (.int .u32 (x.next:Nat)) (t':={t with free:=x.next}) rfl rfl rfl;have h2:=h1.set_ 7 (.bool true) (t':={t with free:=x.next,changed:=true}) rfl rfl rfl;refine ⟨rfl,⟨O,ck,src,h2.mono fun k hk=>.inl hk⟩,?_⟩;exact (Fr.of_below (X:=X) hbV).trans ((set_frX HX.out.1.xT).trans (set_frX HX.out.1.xT))
theorem ErrV.nil {B:Nat} {w:World} {op nm:ByteArray} {v:Value} (h:ErrV B w op nm 0 v):v=.nilIface:=by
 rcases h with ⟨_,h⟩ | ⟨h,_⟩
 ·exact h
 ·exact absurd rfl h
theorem powBelow {w w1:World} (h:PowAt w) (hb:Below w.heap.size w w1):PowAt w1:=h.of fun hl=>hb.block 1 hl
theorem powFr {X:Nat->Prop} {w w1:World} (h:PowAt w) (hf:Fr X w w1) (hX:¬ X 1):PowAt w1:=h.of fun hl=>hf.block 1 hl hX
theorem Alloc_fine {X:Nat->Prop} {w:World} {T M:Nat} {t:PT} (h:TX X w T M t) (h0:t.free=0) (hp:t.pages<512) :
 Calls Tryz.prog 17 #[.pointer (some ⟨T,0,none⟩)] w fun e w'=>e=.returned (.tuple #[.int .u32 (t.pages:Nat),.nilIface])/\TX X w' T M {t with pages:=t.pages+1,changed:=true}/\Fr (TM T M) w w':=by
 obtain ⟨O,ck,src,h⟩:=h;have f3:w.cell? ⟨T,3,none⟩=some (.int .u32 (t.pages:Nat)):=h.blk.cell 3;have f3f:=h.blk.frozen 3;have f4:w.cell? ⟨T,4,none⟩=some (.int .u32 (t.free:Nat)):=h.blk.cell 4;have f7:w.cell? ⟨T,7,none⟩=some (.bool t.changed):=h.blk.cell 7;have f7f:=h.blk.frozen 7;rw [h0] at f4;have d1:decide ((512:Int)<=(t.pages:Int))=false:=dF (by omega);have d2:decide (512<=t.pages)=false:=dF (by omega)
 have a1:IntKind.u32.wrap ((t.pages:Int)+1)=(t.pages:Int)+1:=by rw [IntKind.wrap_u32];omega
 have a2:IntKind.u32.wrap ((t.pages:Int)+1-1)=(t.pages:Int):=by rw [IntKind.wrap_u32];omega
 have a3:IntKind.u32.wrap (t.pages:Int)=(t.pages:Int):=by rw [IntKind.wrap_u32];omega
 have HH:=lH h;clear h;go_enter Tryz.func17,Tryz.ntmps17;go_wp2;go_ret2;have h1:=HH.out.set_ 3 (.int .u32 ((t.pages:Int)+1)) (t':={t with pages:=t.pages+1}) rfl rfl rfl;have h2:=h1.set_ 7 (.bool true) (t':={t with pages:=t.pages+1,changed:=true}) rfl rfl rfl;refine ⟨?_,⟨O,ck,src,h2⟩,?_⟩
 ·first | rfl | simp
 ·exact (set_frX (.inl rfl)).trans (set_frX (.inl rfl))
theorem Alloc_new {X:Nat->Prop} {w:World} {T M:Nat} {t:PT} (h:TX X w T M t) (h0:t.free=0) (hp:t.pages<512) :
 Calls Tryz.prog 17 #[.pointer (some ⟨T,0,none⟩)] w fun e w'=>e=.returned (.tuple #[.int .u32 (t.pages:Nat),.nilIface])/\TX X w' T M {t with pages:=t.pages+1,changed:=true}/\Fr X w w' :=
 (Alloc_fine h h0 hp).mono fun _ _ ⟨a,b,c⟩=>⟨a,b,h.tm c⟩
theorem Alloc_reuse {X:Nat->Prop} {w:World} {T M:Nat} {t:PT} (h:TX X w T M t) (h0:t.free≠0) (b:List UInt8) (hn:t.free<t.pages) (hl:lookO t.free t.over=some b) (hR:openE b=0->ReadC (kindB b) (lsnB b) (restB b)) {x:PN} (hg:getP b=.ok x) (hk:x.kind=5) (hx:x.next<t.pages) :
 Calls Tryz.prog 17 #[.pointer (some ⟨T,0,none⟩)] w fun e w'=>e=.returned (.tuple #[.int .u32 (t.free:Nat),.nilIface])/\TX (moreX X w) w' T M {t with free:=x.next,changed:=true}/\Fr X w w':=by
 have hRe:=reuse_ok h b hn hl hR hg hk hx;obtain ⟨O,ck,src,h⟩:=h;have f4:w.cell? ⟨T,4,none⟩=some (.int .u32 (t.free:Nat)):=h.blk.cell 4
 have z1:((t.free:Int) != 0)=true:=by simpa using h0
 have hF:=fun op nm W=>fault_any op nm 0 W;clear h hl hR hg hk hx;go_enter Tryz.func17,Tryz.ntmps17
 go_wp2_with (first
  | (go_at_call 52;refine hRe.mono ?_;rintro e w3 ⟨rfl,hT3,hf3⟩)
  | (go_at_call 51;refine (hF _ _ _).mono ?_;rintro e w4 ⟨v,rfl,hv,hb4⟩;have hv:=hv.nil;subst hv))
 go_ret2;exact ⟨rfl,hT3.keep (KeepX.of_below hb4),hf3.trans (Fr.of_below hb4)⟩
theorem Put_ok {X:Nat->Prop} {w:World} {T M:Nat} {t:PT} (h:TX X w T M t) (n:Nat) (hn:n<4294967296) (x:NX) (hx:NodeAt w w.heap.size x) (hf:(withL x t.lsn).n.Fit) (hi:isPageT t n=0) (hL:layE t x.n=0) (htab:PowAt w) (hX:¬ X 1) :
 Calls Tryz.prog 19 #[.pointer (some ⟨T,0,none⟩),.int .u32 (n:Nat),x.val] w fun e w'=>e=.returned .nilIface/\TX (moreX X w) w' T M (putT t n x.n)/\Fr X w w':=by
 obtain ⟨w1,hw1⟩:∃ w1,w1=w.alloc (.cells x.cells 52):=⟨_,rfl⟩
 have hb1:Below w.heap.size w w1:=by rw [hw1];exact (bR _ w).alloc (nR _) _
 have hN1:Blk w1 w.heap.size 52 x.cells:=by rw [hw1];exact Blk.new _ _ _
 have h1:=h.keep (KeepX.of_below hb1);have hI:=isPage_any h1 n;have hLy:=lay_any h1 n x ((hx.below hb1).mono hb1.size) hf
 have hpt:putT t n x.n=layT t n x.n:=by unfold putT;rw [hi];rfl
 rw [hpt];rw [hi] at hI;rw [hL] at hLy;have hF:=fun op nm W=>fault_any op nm 0 W;have hD:=fun W hW=>digits_any n hn W hW;have ht1:=powBelow htab hb1;unfold NX.val nodeV NX.cells at *;have HW1:=lH hw1;have HN1:=lH hN1;have HLY:=lH hLy;clear hw1 hN1 h h1 hLy hx hf hpt hL;go_enter Tryz.func19,Tryz.ntmps19
 go_wp2_with (first
  | (rw [<-HW1.out];go_at_call 53;refine hI.mono ?_;rintro e w2 ⟨rfl,h2⟩;have h2:=h2.symm;subst h2)
  | (refine wpList_load_row rfl 52 (.tmp 5) rfl w.heap.size rfl _ _ _ _ HN1.out Tryz.underlying52 rfl (by kernel_rfl) ?_)
  | (go_at_call 43;refine HLY.out.mono ?_;rintro e w3 ⟨rfl,hT3,hf3⟩;have ht3:=powFr ht1 hf3 hX)
  | (go_at_call 54;refine (hD _ ht3).mono ?_;rintro e w4 ⟨rfl,hb4⟩)
  | (go_at_call 51;refine (hF _ _ _).mono ?_;rintro e w5 ⟨v,rfl,hv,hb5⟩;have hv:=hv.nil;subst hv))
 go_ret;refine ⟨rfl,?_,?_⟩
 ·exact ((hT3.keep (KeepX.of_below hb4)).keep (KeepX.of_below hb5)).mono fun k hk=>hk.imp id fun h=>nT hb1.size h
 ·exact ((Fr.of_below (X:=X) hb1).trans hf3).trans ((Fr.of_below hb4).trans (Fr.of_below hb5))
def freeX (next:Nat):NX:=⟨5,0,none,0,[],next,none,0,[],0,0,0,0⟩
theorem flat_at {w:World} {B:Nat} {x:NX} (h1:x.l=[]) (h2:x.data=[]):NodeAt w B x :=
 have h0:∀ y,y∉x.l:=fun y hy=>by rw [h1] at hy;exact absurd hy (List.not_mem_nil)
 ⟨⟨.inl h1,fun y hy=>absurd hy (h0 y),fun y hy=>absurd hy (h0 y)⟩,by rw [h2];exact ⟨rfl,fun h=>absurd h (by simp)⟩,fun y hy=>absurd hy (h0 y),by rw [h1];exact zL _,by rw [h2];exact zL _⟩
theorem Free_fine {X:Nat->Prop} {w:World} {T M:Nat} {t:PT} (h:TX X w T M t) (ok:t.OK) (n:Nat) (hn:n<4294967296) (hi:isPageT t n=0) (htab:PowAt w) (hX:¬ X 1) :
 Calls Tryz.prog 20 #[.pointer (some ⟨T,0,none⟩),.int .u32 (n:Nat)] w fun e w'=>e=.returned .nilIface/\TX (moreX X w) w' T M (freeT t n).2/\Fr (TM T M) w w':=by
 have hL:layE t (freeX t.free).n=0:=freePg_put t.lsn t.free
 have hfr:(freeT t n).2={layT t n (freeN t) with free:=n}:=by
  unfold freeT;rw [hi,if_neg (by simp),if_neg (by rw [show layE t (freeN t)=0 from hL];simp)]
 have h0:=ok.head;have hTM:=h.no hX;have hI:=isPage_any h n;have hLy:=lay_fine h n (freeX t.free) (flat_at rfl rfl) (freePg_fit (next:=t.free) ok.lsn (by omega));rw [hi] at hI;rw [hL] at hLy;rw [hfr];have hnn:(freeX t.free).n=freeN t:=rfl;rw [hnn] at hLy
 have f4:w.cell? ⟨T,4,none⟩=some (.int .u32 (t.free:Nat)):=by obtain ⟨O,ck,src,h⟩:=h;exact h.blk.cell 4
 have hF:=fun op nm W=>fault_any op nm 0 W;have hD:=fun W hW=>digits_any n hn W hW
 have hxT:X T:=by obtain ⟨O,ck,src,h⟩:=h;exact h.xT
 unfold freeX NX.val nodeV at hLy;dsimp only [List.length_nil] at hLy;simp only [Int.natCast_zero] at hLy;have HLY:=lH hLy;clear h hLy hL hfr ok h0;go_enter Tryz.func20,Tryz.ntmps20
 go_wp2_with (first
  | (go_at_call 53;refine hI.mono ?_;rintro e w2 ⟨rfl,h2⟩;have h2:=h2.symm;subst h2)
  | (go_at_call 43;refine HLY.out.mono ?_;rintro e w3 ⟨rfl,⟨O,ck,src,hT3⟩,hf3⟩;have ht3:=powFr htab hf3 hTM;have g4:w3.cell? ⟨T,4,none⟩=some (.int .u32 ((layT t n (freeN t)).free:Nat)):=hT3.blk.cell 4;have g4f:=hT3.blk.frozen 4;have HT3:=lH hT3;have ht4:PowAt (w3.setCell ⟨T,4,none⟩ (.int .u32 (n:Nat))):=powFr ht3 (set_frX (X:=TM T M) (.inl rfl)) hTM;clear hT3)
  | (go_at_call 54;refine (hD _ ht4).mono ?_;rintro e w4 ⟨rfl,hb4⟩)
  | (go_at_call 51;refine (hF _ _ _).mono ?_;rintro e w5 ⟨v,rfl,hv,hb5⟩;have hv:=hv.nil;subst hv))
 go_ret;have h1:=HT3.out.set_ 4 (.int .u32 (n:Nat)) (t':={layT t n (freeN t) with free:=n}) rfl rfl rfl
 have h2:TX (moreX X w) (w3.setCell ⟨T,4,none⟩ (.int .u32 (n:Nat))) T M {layT t n (freeN t) with free:=n}:=⟨O,ck,src,h1⟩
 exact ⟨rfl,(h2.keep (KeepX.of_below hb4)).keep (KeepX.of_below hb5),hf3.trans ((set_frX (.inl rfl)).trans ((Fr.of_below hb4).trans (Fr.of_below hb5)))⟩
theorem Free_ok {X:Nat->Prop} {w:World} {T M:Nat} {t:PT} (h:TX X w T M t) (ok:t.OK) (n:Nat) (hn:n<4294967296) (hi:isPageT t n=0) (htab:PowAt w) (hX:¬ X 1) :
 Calls Tryz.prog 20 #[.pointer (some ⟨T,0,none⟩),.int .u32 (n:Nat)] w fun e w'=>e=.returned .nilIface/\TX (moreX X w) w' T M (freeT t n).2/\Fr X w w' :=
 (Free_fine h ok n hn hi htab hX).mono fun _ _ ⟨a,b,c⟩=>⟨a,b,h.tm c⟩
theorem bytes_none {X:Nat->Prop} {w:World} {T M:Nat} {t:PT} (h:TX X w T M t) (n:Nat) (hn:t.pages<=n) :
 Calls Tryz.prog 65 #[.pointer (some ⟨T,0,none⟩),.int .u32 (n:Nat)] w fun e w'=>e=.returned (.tuple #[.slice none 0 0,.int .i64 7])/\w'=w:=by
 obtain ⟨O,ck,src,h⟩:=h;have f3:w.cell? ⟨T,3,none⟩=some (.int .u32 (t.pages:Nat)):=h.blk.cell 3;have f6:w.cell? ⟨T,6,none⟩=some (.map (some M)):=h.blk.cell 6;have d1:decide ((t.pages:Int)<=(n:Int))=true:=dT (by omega);have d2:decide (t.pages<=n)=true:=dT hn;have HM:=lH h.map
 cases hk:look n O 0 with
 | none =>
  have HK:=lH hk;clear h hk;go_enter Tryz.func65,Tryz.ntmps65
  go_wp2_with (refine wpList_look_none rfl (.tmp 15) (.tmp 16) rfl rfl rfl HM.out HK.out ?_)
  go_ret2;exact ⟨rfl,rfl⟩
 | some r =>
  obtain ⟨j,y⟩:=r;have HK:=lH hk;clear h hk;unfold KE.val at *;go_enter Tryz.func65,Tryz.ntmps65
  go_wp2_with (refine wpList_look_some rfl (.tmp 15) (.tmp 16) rfl rfl rfl HM.out HK.out ?_)
  go_ret2;exact ⟨rfl,rfl⟩
def headX (t:PT):NX:=⟨1,t.lsn,none,0,[],0,none,0,[],t.root,t.pages,t.free,t.entries⟩
theorem bytes_head {X:Nat->Prop} {w:World} {T M:Nat} {t:PT} (h:TX X w T M t) (ok:t.OK) (hc:t.changed=true) (hl:lookO 0 t.over=none) :
 Calls Tryz.prog 65 #[.pointer (some ⟨T,0,none⟩),.int .u32 0] w fun e w'=>∃ A c,e=.returned (.tuple #[.slice A 256 c,.int .i64 0])/\w'.ownsRow w.heap.size 5 1 (.slice A 256 c) 256 (bl (putP t.head))/\Below w.heap.size w w':=by
 obtain ⟨O,ck,src,h⟩:=h;have h0:=ok.head;have f3:w.cell? ⟨T,3,none⟩=some (.int .u32 (t.pages:Nat)):=h.blk.cell 3;have f6:w.cell? ⟨T,6,none⟩=some (.map (some M)):=h.blk.cell 6
 have f7:w.cell? ⟨T,7,none⟩=some (.bool true):=by rw [<-hc];exact h.blk.cell 7
 have hBl:=h.blk
 have kS:Hid (∀ W,Below w.heap.size w W->(W.cell? ⟨T,1,none⟩=some (.int .u64 (t.lsn:Nat))/\W.cell? ⟨T,2,none⟩=some (.int .u32 (t.root:Nat))/\W.cell? ⟨T,3,none⟩=some (.int .u32 (t.pages:Nat))/\W.cell? ⟨T,4,none⟩=some (.int .u32 (t.free:Nat))/\W.cell? ⟨T,5,none⟩=some (.int .u64 (t.entries:Nat)))):=lH fun W hW=>⟨(hBl.below hW hBl.lt).cell 1,(hBl.below hW hBl.lt).cell 2,(hBl.below hW hBl.lt).cell 3,(hBl.below hW hBl.lt).cell 4,(hBl.below hW hBl.lt).cell 5⟩
 clear hBl;have d1:decide ((t.pages:Int)<=0)=false:=dF (by omega);have d2:decide (t.pages<=0)=false:=dF (by omega)
 have z0:(t.pages==0)=false:=by simp;omega
 have z1:¬ t.pages=0:=by omega
 have z2:decide (t.pages=0)=false:=dF (by omega);have HM:=lH h.map;have hP:=Put_any (headX t) w.drew (flat_at rfl rfl) (nR _) ok.fit;rw [show putE (headX t).n=0 from ok.putE,show (headX t).n=t.head from rfl] at hP;unfold headX NX.val nodeV at hP;dsimp only [List.length_nil] at hP;simp only [Int.natCast_zero] at hP
 have hk:look 0 O 0=none:=by
  rw [h.over,over_look 0 O 0] at hl
  cases hk:look 0 O 0 with
  | none=>rfl
  | some r=>rw [hk] at hl;cases hl
 have HK:=lH hk;have HP:=lH hP;clear h hk hP hl ok h0;go_enter Tryz.func65,Tryz.ntmps65
 go_wp2_with (refine wpList_look_none rfl (.tmp 15) (.tmp 16) rfl rfl rfl HM.out HK.out ?_)
 refine regionE 12 (fun W0=>W0.cell? ⟨T,1,none⟩=some (.int .u64 (t.lsn:Nat))/\W0.cell? ⟨T,2,none⟩=some (.int .u32 (t.root:Nat))/\W0.cell? ⟨T,3,none⟩=some (.int .u32 (t.pages:Nat))/\W0.cell? ⟨T,4,none⟩=some (.int .u32 (t.free:Nat))/\W0.cell? ⟨T,5,none⟩=some (.int .u64 (t.entries:Nat))) (by kernel_rfl) (by kernel_rfl) (by kernel_rfl) (by kernel_rfl) (by kernel_rfl) (kS.out _ ((bR _ w).drew)) (fun hHeld hTl=>?_);refine tkT 0 (v:=?_) hTl hHeld rfl ?_ (fun hTl=>?_);rotate_left
 ·intro w hSw;(try dsimp only at hSw);go_simp;all_goals with_reducible rfl
 try simp only [pT]
 refine tkT 1 (v:=?_) hTl hHeld rfl ?_ (fun hTl=>?_);rotate_left
 ·intro w hSw;(try dsimp only at hSw);go_simp;all_goals with_reducible rfl
 try simp only [pT]
 refine tkT 2 (v:=?_) hTl hHeld rfl ?_ (fun hTl=>?_);rotate_left
 ·intro w hSw;(try dsimp only at hSw);go_simp;all_goals with_reducible rfl
 try simp only [pT]
 refine tkT 3 (v:=?_) hTl hHeld rfl ?_ (fun hTl=>?_);rotate_left
 ·intro w hSw;(try dsimp only at hSw);go_simp;all_goals with_reducible rfl
 try simp only [pT]
 refine tkT 4 (v:=?_) hTl hHeld rfl ?_ (fun hTl=>?_);rotate_left
 ·intro w hSw;(try dsimp only at hSw);go_simp;all_goals with_reducible rfl
 try simp only [pT]
 refine tkT 5 (v:=?_) hTl hHeld rfl ?_ (fun hTl=>?_);rotate_left
 ·intro w hSw;(try dsimp only at hSw);go_simp;all_goals with_reducible rfl
 try simp only [pT]
 refine tkT 6 (v:=?_) hTl hHeld rfl ?_ (fun hTl=>?_);rotate_left
 ·intro w hSw;(try dsimp only at hSw);go_simp;all_goals with_reducible rfl
 try simp only [pT]
 refine tkT 7 (v:=?_) hTl hHeld rfl ?_ (fun hTl=>?_);rotate_left
 ·intro w hSw;(try dsimp only at hSw);go_simp;all_goals with_reducible rfl
 try simp only [pT]
 refine tkT 8 (v:=?_) hTl hHeld rfl ?_ (fun hTl=>?_);rotate_left
 ·intro w hSw;(try dsimp only at hSw);go_simp;all_goals with_reducible rfl
 try simp only [pT]
 have hTl2:=hTl.step 9 (by kernel_rfl) (by decide);clear hTl;refine oneE 9 rfl (by kernel_rfl) (fun K hK=>?_);refine sC rfl 80 _ (by go_simp) HP.out ?_
 rintro e w5 ⟨A,m,c,e5,ho5,hb5'⟩;subst e5;obtain ⟨rfl,ho⟩:=ho5 trivial;have hb5:Below w.heap.size w w5:=(bR _ w).drew.trans hb5';refine ⟨_,rfl,?_⟩
 refine hK.out _ _ (fun _=>kS.out _ hb5) ?_;clear hK K
 try simp only [pT]
 have hTl:=hTl2;clear hTl2;have hHeld:=kS.out _ hb5;refine tkT 10 (v:=?_) hTl hHeld rfl ?_ (fun hTl=>?_);rotate_left
 ·intro w hSw;(try dsimp only at hSw);go_simp;all_goals with_reducible rfl
 try simp only [pT]
 refine tkT 11 (v:=?_) hTl hHeld rfl ?_ (fun hTl=>?_);rotate_left
 ·intro w hSw;(try dsimp only at hSw);go_simp;all_goals with_reducible rfl
 try simp only [pT]
 clear hTl;refine oneE 12 rfl (by kernel_rfl) (fun K hK=>?_);go_simp;refine hK.out _ _ (fun h=>absurd h (by decide)) ?_;clear hK K
 try simp only [pT]
 refine oneE 13 rfl (by kernel_rfl) (fun K hK=>?_);go_simp;refine hK.out _ _ (fun h=>absurd h (by decide)) ?_;clear hK K
 try simp only [pT]
 refine doneE (by kernel_rfl) ?_ _;go_wp2;go_ret2;exact ⟨A,c,rfl,ho,hb5⟩
theorem Page_none {X:Nat->Prop} {w:World} {T M:Nat} {t:PT} (h:TX X w T M t) (n:Nat) (hn32:n<4294967296) (hn:t.pages<=n) (htab:PowAt w) :
 Calls Tryz.prog 26 #[.pointer (some ⟨T,0,none⟩),.int .u32 (n:Nat)] w fun e w'=>∃ v,e=.returned (.tuple #[.slice none 0 0,v])/\ErrV w.heap.size w' ⟨#[112,97,103,101]⟩ ⟨(Lib.decDigits n).toArray⟩ 7 v/\Below w.heap.size w w':=by
 have hB:=bytes_none h n hn;have hD:=digits_any n hn32 w htab;have hF:=fun nm W=>fault_any ⟨#[112,97,103,101]⟩ nm 7 W;clear h;go_enter Tryz.func26,Tryz.ntmps26
 go_wp2_with (first
  | (go_at_call 65;refine hB.mono ?_;rintro e w2 ⟨rfl,h2⟩;have h2:=h2.symm;subst h2)
  | (go_at_call 54;refine hD.mono ?_;rintro e w3 ⟨rfl,hb3⟩)
  | (go_at_call 51;refine (hF _ _).mono ?_;rintro e w4 ⟨v,rfl,hv,hb4⟩))
 go_ret2;exact ⟨v,rfl,hv.lo hb3.size,hb3.trans (hb4.mono hb3.size)⟩
end
section
open Go.RowKit Go.Maps Go.Sort Go.Shelf
def encU (x:Int):Value:=.int .u32 x
theorem keyed_u:Keyed Tryz.prog 22:=int_keyed Tryz.underlying22
theorem keyOf_u {key:Value} {kl:Lit} (h:keyOf Tryz.prog 22 key=some kl):∃ x:Int,key=encU x/\kl=.int .u32 x/\(Lit.int .u32 x).wf=true:=Maps.keyOf_int_inv Tryz.underlying22 h
def CollU {H:Type} (D0:DataW H) (left:Lit->Bool) (ss:List Int):Prop:=ss.Nodup/\∀ x,x∈ss↔(has D0 (.int .u32 x)=true/\left (.int .u32 x)=false)
theorem CollU.start {H:Type} (D0:DataW H):CollU D0 (has D0) []:=⟨List.nodup_nil,fun x=>by cases has D0 (.int .u32 x) <;> simp⟩
theorem CollU.step {H:Type} {D0:DataW H} {left:Lit->Bool} {ss:List Int} (h:CollU D0 left ss) {x:Int} {y:DataW H} (hlk:left (.int .u32 x)=true) (hat:∀ zd,D0.atKey (.int .u32 x) zd=y):CollU D0 (fun z=>left z && !z.sameKey (.int .u32 x)) (ss++[x]):=by
 have hhas:has D0 (.int .u32 x)=true:=has_true_of_atKey hat
 have hnew:x∉ss:=fun hx=>by have:=((h.2 x).1 hx).2;rw [hlk] at this;cases this
 refine ⟨?_,fun y=>?_⟩
 ·rw [List.nodup_append];exact ⟨h.1,by simp,fun a ha b hb e=>by simp only [List.mem_singleton] at hb;subst hb;exact hnew (e ▸ ha)⟩
 ·by_cases hy:y=x
  ·subst hy;simp [hhas,Lit.sameKey]
  ·simp [h.2 y,hy,Lit.sameKey]
theorem keysU1_in {H:Type} (F:Fence) (n:Nat) (hF:F.fn 89) (hro:F.round=none) (hn:1<=n) (l Bm b nn:Nat) (D0:DataW H) {R:Value->Option (DataW H × List MemPlace)} (J Jx:List Int->World->Prop)
 (hY:∀ pre x W,J pre W->pre.length<Maps.size D0->YieldAt F (n-1) Tryz.prog l #[encU x] W fun e W'=>(e=.returned (.bool true)/\J (pre++[x]) W'/\KeepsWalks W W')\/(e=.returned (.bool false)/\Jx (pre++[x]) W'))
 (W:World) (hJ:AbidesFrom W.heap.size J) (hm:W.cell? ⟨Bm,0,none⟩=some (.map (some b))) (hown:W.ownsMap Tryz.prog 22 R b nn D0) (h0:J [] W) :
 CallsIn F n Tryz.prog 89 #[.func (.yield l) #[] #[],.pointer (some ⟨Bm,0,none⟩)] W fun e W'=>(∃ v,e=.returned v)/\((∃ ss:List Int,(ss.Nodup/\∀ x,x∈ss↔has D0 (.int .u32 x)=true)/\J ss W')\/(∃ pre,True/\Jx pre W')):=by
 refine callsIn_of_wp Tryz.func89 rfl hF ?_ hro;simp only [Tryz.ntmps89,List.size_toArray,List.length_cons,List.length_nil,Nat.reduceAdd,Nat.reduceSub,Array.replicate_succ,Array.replicate_zero,List.push_toArray,List.append_toArray,List.nil_append,List.cons_append]
 gi_wp2_with (first
  | (gi_at_range;refine wpListIn_range_own _ rfl _ 91 rfl 22 23 keyed_u Tryz.underlying91 _ b nn _ rfl hown ?_;intro w0 hrg0 hg0 hs0)
  | gi_in)
 go_frame
 gi_loopw [3] (fun _ wr=>∃ (left:Lit->Bool) (cnt:Nat) (ss:List Int),wr.ranges Tryz.prog 22 R b W.heap.size nn D0 left cnt/\ss.length+cnt<=Maps.size D0/\CollU D0 left ss/\J ss wr)
  (fun _ wr=>wr.rangeLeft b W.heap.size)
 case atStart =>
  exact ⟨_,_,[],hrg0,by simp,CollU.start D0,hJ [] W w0 none h0 hg0 (fun r e=>by cases e)⟩
 case round =>
  obtain ⟨left,cnt,ss,hrg,hcs,hC,hJs⟩:=hrel
  gi_wp2_with (first
   | (gi_at_next;refine wpListIn_next_ranges _ rfl _ rfl 22 keyed_u R encU id (fun key kl hk=>by obtain ⟨x,hx,_⟩:=keyOf_u hk;exact ⟨x,hx⟩) (fun v _ _=>⟨v,rfl⟩) b W.heap.size nn _ _ _ rfl hrg ?_ ?_)
   | gi_in)
  ·intro hc0 hl0
   gi_wp2
   go_end0
   exact ⟨⟨_,rfl⟩,.inl ⟨ss,⟨hC.1,fun x=>by rw [hC.2 x,hl0];simp⟩,hJs⟩⟩
  ·intro x c kl yd yp w2 cnt2 hkey hlk hv hat hrg2 hlt hg2 hs2 hen;obtain ⟨x',ex,rfl,_⟩:=keyOf_u hkey
   obtain rfl:x=x':=by simpa [encU] using ex
   have hJ2:J ss w2:=hJ ss wr w2 (some W.heap.size) hJs hg2 (fun r e=>by cases e;exact ⟨nR _,hrg.iter_walk⟩);obtain ⟨fn,tmps,assign,body,hy,hR⟩:=hY ss x w2 hJ2 (by omega);clear hs2
   gi_wp2
   refine hR.mono ?_;rintro e W3 (⟨rfl,hJ3,hk3⟩ | ⟨rfl,hJx3⟩)
   ·gi_wp2
    have hrg3:=hrg2.of_walks hk3
    go_roundw
    case rel=>exact ⟨_,cnt2,ss++[x],hrg3,by simp;omega,hC.step hlk hat,hJ3⟩
    case measure=>rw [hrg3.left_eq,hrg.left_eq];exact hlt
   ·gi_wp2
    refine bodyPost_ret (results_none rfl _ _ _) rfl ?_;exact ⟨⟨_,rfl⟩,.inr ⟨_,trivial,hJx3⟩⟩
theorem keysU_any (M:Nat) (w:World):Calls Tryz.prog 67 #[.map (some M)] w fun e w'=>e=.returned (.func (.func 89) #[] #[.pointer (some ⟨w.heap.size,0,none⟩)])/\w'=w.alloc (.cells #[.map (some M)] 91):=by
 go_enter Tryz.func67,Tryz.ntmps67;go_wp2;go_ret;exact ⟨rfl,rfl⟩
theorem keysU_stops {H:Type} (F:Fence) (n:Nat) (hF:F.fn 89) (hro:F.round=none) (hn:1<=n) (Bm b nn:Nat) (D0:DataW H) {R:Value->Option (DataW H × List MemPlace)} (w:World) (hBm:Bm<w.heap.size)
 (hm:w.cell? ⟨Bm,0,none⟩=some (.map (some b))) (hown:w.ownsMap Tryz.prog 22 R b nn D0) :
 SeqStopsK F n Tryz.prog 89 #[.pointer (some ⟨Bm,0,none⟩)] (fun x=>#[encU x]) KeepsWalks (fun ss=>ss.Nodup/\∀ x,x∈ss↔has D0 (.int .u32 x)=true) (fun _=>True) (Maps.size D0) w:=fun l J Jx W hW hJ _ hY h0=>by
 have hown':W.ownsMap Tryz.prog 22 R b nn D0:=by
  have hbl:=hown.lt;obtain ⟨es,clock,hb,Ft,hs,hD⟩:=hown;exact ⟨es,clock,(hW.block b hbl).trans hb,Ft,hs,hD⟩
 exact keysU1_in F n hF hro hn l Bm b nn D0 J Jx hY W hJ ((hW.cell (p:=⟨Bm,0,none⟩) hBm).trans hm) hown' h0
end
section
open Go.RowKit
def leafX:NX:=⟨3,0,none,0,[],0,none,0,[],0,0,0,0⟩
def fresh0 (lsn:Nat):PT:=⟨[],lsn,1,2,0,0,[],false⟩
theorem leaf_put (lsn:Nat):putE (freshN lsn)=0:=by
 unfold putE
 have h:nodeOK (freshN lsn)=true:=by unfold nodeOK plainOK freshN;simp [riseK]
 rw [h,if_neg (by simp),if_neg];rintro ⟨_,h2⟩;unfold usedN freshN at h2;simp at h2
theorem fresh_lay (lsn:Nat):layE (fresh0 lsn) leafX.n=0/\layT (fresh0 lsn) 1 leafX.n=freshT lsn:=by
 have h:layE (fresh0 lsn) leafX.n=0:=leaf_put lsn;refine ⟨h,?_⟩;unfold layT;rw [if_pos h];rfl
theorem Fresh_any (lsn:Nat) (hl:lsn<18446744073709551616) (w:World) :
 Calls Tryz.prog 12 #[.int .u64 (lsn:Nat)] w fun e w'=>∃ T M,e=.returned (.pointer (some ⟨T,0,none⟩))/\TX (fun k=>w.heap.size<=k) w' T M (freshT lsn)/\Below w.heap.size w w':=by
 have hmm:=@run_makeMap Tryz.prog
 obtain ⟨w2,hw2⟩:∃ w2,w2=(w.alloc (.map #[] 0)).alloc (.cells #[.iface 66 (.agg #[.slice none 0 0]),.int .u64 (lsn:Nat),.int .u32 1,.int .u32 2,.int .u32 0,.int .u64 0,.map (some w.heap.size),.bool false] 95):=⟨_,rfl⟩
 have hba:Below w.heap.size w (w.alloc (.map #[] 0)):=(bR _ w).alloc (nR _) _
 have hb2:Below w.heap.size w w2:=by rw [hw2];exact hba.alloc hba.size _
 have hT:TXo (fun k=>w.heap.size<=k) w2 (w.heap.size+1) w.heap.size [] 0 (.iface 66 (.agg #[.slice none 0 0])) (fresh0 lsn):=by
  refine ⟨by omega,by show w.heap.size<=_;omega,nR _,?_,?_,⟨fun e he=>absurd he (List.not_mem_nil),List.nodup_nil⟩,rfl,fun e he=>absurd he (List.not_mem_nil),none,0,[],rfl,rfl,Reads.none_,zL _,fun _ ad h=>(by cases h),fun p hp=>absurd hp (List.not_mem_nil)⟩
  ·rw [hw2];exact blk_newH _ _ _ (by simp)
  ·rw [hw2,Below.heap_alloc _ _ _ (by simp)];show (w.heap.push _)[w.heap.size]?=_;simp
 have hLy:=lay_any (X:=fun k=>w.heap.size<=k) (w:=w2) ⟨[],0,_,hT⟩ 1 leafX (flat_at rfl rfl) ⟨hl,(by decide:0<4294967296),(by decide:0<4294967296),(by decide:0<4294967296),(by decide:0<4294967296),(by decide:0<18446744073709551616),fun c hc=>(by cases hc)⟩;rw [(fresh_lay lsn).1,(fresh_lay lsn).2] at hLy;unfold leafX NX.val nodeV at hLy;dsimp only [List.length_nil] at hLy;simp only [Int.natCast_zero] at hLy;have HLY:=lH hLy;have HW2:=lH hw2;clear hLy hT hw2;go_enter Tryz.func12,Tryz.ntmps12
 go_wp2_with (rw [<-HW2.out];go_at_call 43;refine HLY.out.mono ?_;rintro e w3 ⟨rfl,hT3,hf3⟩)
 go_ret;refine ⟨_,_,rfl,hT3.mono fun k hk=>hk.elim id fun h=>nT hb2.size h,?_⟩;exact hb2.trans (hf3.below (B:=w.heap.size) hb2.size fun k hk=>hk)
theorem TU4:SlT Tryz.prog 35 22 1 4:=SlT.of Tryz.underlying35 (z:=.int .u32 0) (by kernel_rfl) rfl (by omega) (by omega)
theorem ownB {A:Option Addr} {n c:Nat} {g:Nat} (h:(.slice A n c:Value).ownBlock=some g):∃ ad,A=some ad/\ad.block=g:=by
 cases A with
 | none=>cases h
 | some ad=>exact ⟨ad,rfl,by simpa [Value.ownBlock] using h⟩
theorem grown_at {w w':World} {A:Option Addr} {n c k:Nat} (h:w.grownBy w' (.slice A n c:Value).ownBlock) (hk:k<w.heap.size) (hA:∀ ad,A=some ad->ad.block≠k):w'.heap[k]?=w.heap[k]? :=
 h.block k hk fun e=>by
  obtain ⟨ad,e1,e2⟩:=ownB e.symm;exact hA ad e1 e2
theorem grown_below {w w':World} {base:Nat} {A:Option Addr} {n c:Nat} (h:w.grownBy w' (.slice A n c:Value).ownBlock) (hb:base<=w.heap.size) (hA:∀ ad,A=some ad->base<=ad.block):Below base w w' :=
 ⟨h.os,h.tape,h.output,h.size,fun k hk=>grown_at h (by omega) (fun ad e hh=>by have:=hA ad e;omega)⟩
end
section
open Go.RowKit Go.Maps Go.Sort Go.Shelf
attribute [local go_sem] Oper.semAt_some
theorem own_kept {W W':World} {base e s n:Nat} {v:Value} {xs:List Value} {row:Option Nat} (h:W.ownsRow base e s v n xs) (hg:W.grownBy W' row) (hr:∀ r,row=some r->∃ o:Obj,W.heap[r]?=some o/\o.isCells=false):W'.ownsRow base e s v n xs:=by
 refine ⟨h.1,h.2.imp id ?_⟩;rintro ⟨g,cap,cur,e1,e2,e3,r⟩;refine ⟨g,cap,cur,e1,e2,(hg.block g (aS.1 e3).1 (fun e=>?_)).trans e3,r⟩;obtain ⟨o,ho,hc⟩:=hr g e.symm;rw [e3] at ho
 cases ho
 cases hc
def us (l:List Int):List Value:=l.map encU
theorem us_len (l:List Int):(us l).length=l.length:=by simp [us]
theorem us_app (l:List Int) (x:Int):us l++us [x]=us (l++[x]):=by simp [us]
theorem us_one (l:List Int):∀ u∈us l,u.oneCell'=true:=by
 intro u hu;unfold us at hu;obtain ⟨n,_,rfl⟩:=List.mem_map.1 hu;rfl
theorem own_type {W:World} {base n:Nat} {A:Option Addr} {c:Nat} {xs:List Value} {g:Nat} {cs:Array Value} (h:W.ownsRow base 22 1 (.slice A n c) n xs) (hB:Blk W g 35 cs):(.slice A n c:Value).ownBlock≠some g:=by
 intro e;obtain ⟨ad,rfl,e2⟩:=ownB e
 rcases h.2 with ⟨h0,_⟩ | ⟨g',cap,cur,e1,_,e3,_⟩
 ·cases h0
 ·simp only [Value.slice.injEq,Option.some.injEq] at e1;rw [e1.1] at e2;have e2:g'=g:=e2;rw [e2,show W.heap[g]?=_ from hB] at e3
  injection e3 with e3
  injection e3 with _ e4 _
  exact absurd e4 (by decide)
theorem own_cells {W:World} {base n:Nat} {A:Option Addr} {c:Nat} {xs:List Value} (h:W.ownsRow base 22 1 (.slice A n c) n xs):∀ (j:Nat) (o:Obj),(.slice A n c:Value).ownBlock=some j->W.heap[j]?=some o->o.isCells=true:=by
 intro j o e ho;obtain ⟨ad,rfl,e2⟩:=ownB e
 rcases h.2 with ⟨h0,_⟩ | ⟨g',cap,cur,e1,_,e3,_⟩
 ·cases h0
 ·simp only [Value.slice.injEq,Option.some.injEq] at e1;rw [e1.1] at e2;have e2:g'=j:=e2;rw [<-e2,e3] at ho
  cases ho
  rfl
theorem appSeq_any {H:Type} (Bm b nn:Nat) (D0:DataW H) {R:Value->Option (DataW H × List MemPlace)} (w:World) (hBm:Bm<w.heap.size) (hm:w.cell? ⟨Bm,0,none⟩=some (.map (some b))) (hown:w.ownsMap Tryz.prog 22 R b nn D0) (hN:Maps.size D0<=900) :
 Calls Tryz.prog 108 #[.slice none 0 0,.func (.func 89) #[] #[.pointer (some ⟨Bm,0,none⟩)]] w fun e w'=>∃ (ss:List Int) (A:Option Addr) (c:Nat),e=.returned (.slice A ss.length c)/\(ss.Nodup/\∀ x,x∈ss↔has D0 (.int .u32 x)=true) /\
  w'.ownsRow w.heap.size 22 1 (.slice A ss.length c) ss.length (us ss)/\Below w.heap.size w w':=by
 have hst:=keysU_stops Fence.wide 2 trivial rfl (by omega) Bm b nn D0 w hBm hm hown;have bS:=Blk.new w 35 #[.slice none 0 0];refine (callsIn_wide (n:=3)).1 ?_;refine callsIn_of_wp_marks Tryz.func108 rfl trivial ?_ rfl;simp only [Tryz.ntmps108,List.size_toArray,List.length_cons,List.length_nil,Nat.reduceAdd,Nat.reduceSub,Array.replicate_succ,Array.replicate_zero,List.push_toArray,List.append_toArray,List.nil_append,List.cons_append]
 gi_wp2
 refine' wpIn_rangeFunc_ownF rfl (by omega) (gf:=89) (lb:=#[.pointer (some ⟨Bm,0,none⟩)]) rfl trivial (enters_of Tryz.func89 (by kernel_rfl) rfl) hst walksK_t ?hkb ((bR _ w).alloc (nR _) _) (fun _=>rfl)
  (fun pre W=>(∃ (A:Option Addr) (c:Nat),Blk W w.heap.size 35 #[.slice A pre.length c]/\W.ownsRow w.heap.size 22 1 (.slice A pre.length c) pre.length (us pre))/\Below w.heap.size w W)
  (fun _ _ _=>False) ?hi ?hix ?h0 _ ?assign ?body ?done ?stop
 case hkb=>exact fun W l o o' hl ho hc hw=>walksK_b (w:=w) W l o o' (by simp at hl;omega) ho hc hw
 case hi =>
  refine OwnFrom.and (Own.from (fun s A B row hs hg hr=>?_) _) (ownFrom_below (nR _) (by simp));obtain ⟨A1,c1,h3,h4⟩:=hs;exact ⟨A1,c1,(grownBy_keeps_cells hg hr h3 rfl).trans h3,own_kept h4 hg hr⟩
 case hix=>exact fun _ _ _ _ _ hs _ _=>hs
 case h0 =>
  refine ⟨⟨none,0,heap_alloc_new w _,⟨rfl,.inl ⟨rfl,rfl⟩⟩⟩,(bR _ w).alloc (nR _) _⟩
 case assign =>
  intro l x W K hK
  gi_wp2
  exact hK
 case body =>
  rintro l pre x W ⟨⟨A1,c1,hB1,ho1⟩,hBa⟩ hp;have hc1:=hB1.cell 0;have hf1:=hB1.frozen 0;have hc1:W.cell? ⟨w.heap.size,0,none⟩=some (.slice A1 pre.length c1):=hc1;obtain ⟨i,z,i1,i2,i3,i4,i5⟩:=TU4.info;have hbW:Below W.heap.size W (W.alloc (.cells #[.int .u32 x] 22)):=(bR _ W).alloc (nR _) _;have hB2:=hB1.below hbW hB1.lt;have ho2:(W.alloc (.cells #[.int .u32 x] 22)).ownsRow w.heap.size 22 1 (.slice A1 pre.length c1) pre.length (us pre):=ho1.alloc _;have hrn:Reads (W.alloc (.cells #[.int .u32 x] 22)) (W.alloc (.cells #[.int .u32 x] 22)).heap.size 1 (some ⟨W.heap.size,0,none⟩) 1 (us [x]):=reads_blk (Blk.new _ _ _) rfl
  have hcn:∀ j u,(us [x])[j]?=some u->(W.alloc (.cells #[.int .u32 x] 22)).cell? ((⟨W.heap.size,0,none⟩:Addr).add j)=some u:=by
   obtain ⟨ad,e,_,h⟩:=hrn.2 (by omega)
   cases e
   exact h
  unfold encU
  gi_wp2_with (gi_at_builtin;(refine wpListIn_append_own _ rfl (.tmp 8) (.tmp 10) 35 rfl w.heap.size 22 i z 1 4 TU4.under i1 i2 i3 i4 i5 TU4.pos _ pre.length (us pre) rfl ho2 ⟨W.heap.size,0,none⟩ 1 1 (us [x]) rfl rfl hcn (us_one _) (by simp only [maxLen];omega) (by omega) (by have:=hBa.size;simp;omega) ?_;intro v' w3 ho3 hg3 _;obtain ⟨A3,c3,rfl⟩:=own_formN ho3;have hB3:Blk w3 w.heap.size 35 #[.slice A1 pre.length c1]:=(hg3.block _ hB2.lt (fun e=>own_type ho2 hB2 e.symm)).trans hB2;have hc3:w3.cell? ⟨w.heap.size,0,none⟩=some (.slice A1 pre.length c1):=hB3.cell 0;have hf3:=hB3.frozen 0))
  have hB4:=hB3.set_ 0 (.slice A3 (pre.length+1) c3);have hko:KeepsOthers W (w3.setCell ⟨w.heap.size,0,none⟩ (.slice A3 (pre.length+1) c3)):=((KeepsOthers.alloc _ _).trans (KeepsOthers.of_grownBy hg3 (own_cells ho2))).trans (KeepsOthers.setCell _ _ _);refine ⟨hko,hko.walks,⟨A3,c3,by rw [lQ];exact hB4,?_⟩,?_⟩
  ·have h5:w3.ownsRow w.heap.size 22 1 (.slice A3 (pre++[x]).length c3) (pre++[x]).length (us (pre++[x])):=by
    rw [lQ,<-us_app];exact ho3
   refine ⟨h5.1,h5.2.imp id ?_⟩;rintro ⟨g',cap,cur,e1,e2,e3,r⟩;refine ⟨g',cap,cur,e1,e2,(Below.heap_setCell _ _ _ _ (fun e=>?_)).trans e3,r⟩;have e:g'=w.heap.size:=e;rw [e,show w3.heap[w.heap.size]?=_ from hB3] at e3
   injection e3 with e3
   injection e3 with _ e4 _
   exact absurd e4 (by decide)
  ·have hb3:Below w.heap.size w w3:=(hBa.alloc hBa.size _).trans (grown_below hg3 (by have:=hBa.size;simp;omega) (fun ad e=>by
    subst e
    rcases ho2.2 with ⟨h0,_⟩ | ⟨g',cap,cur,e1,e2,_⟩
    ·cases h0
    ·simp only [Value.slice.injEq,Option.some.injEq] at e1;rw [e1.1]
     exact e2))
   exact hb3.setCell (p:=⟨w.heap.size,0,none⟩) (nR _) _
 case done =>
  rintro D ss W hD hS ⟨⟨A1,c1,hB1,ho1⟩,hBa⟩ hK;have hc1:W.cell? ⟨w.heap.size,0,none⟩=some (.slice A1 ss.length c1):=hB1.cell 0;have hf1:=hB1.frozen 0
  gi_wp2
  refine ⟨by simp,.inl ⟨_,_,rfl,run_takeDeferred hK,?_⟩⟩;refine ⟨_,results_tmp rfl _ _ _,?_⟩;have hput:W.grownBy (W.putObj D (.deferred none)) (some D):=grownBy_putObj' W D _;exact ⟨ss,A1,c1,rfl,hS,own_kept ho1 hput (fun r e=>by cases e;exact ⟨_,hK,rfl⟩),hBa.trans (belowK_b (w:=w) (nR _) W D _ _ (by simp at hD;omega) hK rfl rfl)⟩
 case stop =>
  rintro D c pre W _ _ h _;exact h.elim
end
section
open Go.RowKit Go.Maps Go.Sort Go.Shelf
open Go.WideElems (Fit rd rg)
def Rv:Value->Option (DataW Unit × List MemPlace):=fun _=>some (.nil,[])
theorem rd_ent {x:KE} (h:x.nm<4294967296):rd Tryz.prog 22 Rv x.ent=some (.int .u32 (x.nm:Nat),.nil):=by
 have hw:(Lit.int .u32 (x.nm:Nat)).wf=true:=by
  have e1:IntKind.u32.min=0:=rfl;have e2:IntKind.u32.max=4294967295:=rfl;simp [Lit.wf,e1,e2];omega
 have hk:keyOf Tryz.prog 22 (.int .u32 (x.nm:Nat))=some (.int .u32 (x.nm:Nat)):=keyOf_int_mk Tryz.underlying22 hw;exact WideElems.rd_mk (yv:=(.nil,[])) hk rfl
structure MapOK (O:List KE) (ck:Nat):Prop where
 nm:∀ x∈O,x.nm<4294967296
 one:(O.map KE.nm).Nodup
 born:∀ x∈O,x.born<ck
 clocks:(O.map KE.born).Nodup
 few:O.length<=900
theorem own_map {w:World} {M:Nat} {O:List KE} {ck:Nat} (hM:w.heap[M]?=some (.map (O.map KE.ent).toArray ck)) (h:MapOK O ck) :
 w.ownsMap Tryz.prog 22 Rv M O.length (.map (((O.map KE.ent).map (rg Tryz.prog 22 Rv)).foldr DataW.insert [])):=by
 refine ⟨_,ck,hM,⟨by simp [maxLen];have:=h.few;omega,⟨?_,?_,?_⟩,?_⟩,by simp,rfl⟩
 ·intro x hx;simp only [List.mem_map] at hx;obtain ⟨y,hy,rfl⟩:=hx;exact h.born y hy
 ·simp only [List.map_map];exact h.clocks
 ·simp only [List.map_map];have h1:=h.one;rw [List.Nodup,List.pairwise_map] at h1 ⊢;exact h1.imp fun hne e=>hne (by have h:=e;simp [KE.ent] at h;omega)
 ·intro x hx;simp only [List.mem_map] at hx;obtain ⟨y,hy,rfl⟩:=hx;exact ⟨_,rd_ent (h.nm y hy)⟩
theorem collect_any {H:Type} (Bm b nn:Nat) (D0:DataW H) {R:Value->Option (DataW H × List MemPlace)} (w:World) (hBm:Bm<w.heap.size) (hm:w.cell? ⟨Bm,0,none⟩=some (.map (some b))) (hown:w.ownsMap Tryz.prog 22 R b nn D0) (hN:Maps.size D0<=900) :
 Calls Tryz.prog 87 #[.func (.func 89) #[] #[.pointer (some ⟨Bm,0,none⟩)]] w fun e w'=>∃ (ss:List Int) (A:Option Addr) (c:Nat),e=.returned (.slice A ss.length c)/\(ss.Nodup/\∀ x,x∈ss↔has D0 (.int .u32 x)=true) /\
  w'.ownsRow w.heap.size 22 1 (.slice A ss.length c) ss.length (us ss)/\Below w.heap.size w w':=by
 have hA:=appSeq_any Bm b nn D0 w hBm hm hown hN;clear hown;go_enter Tryz.func87,Tryz.ntmps87
 go_wp2_with (go_at_call 108;refine hA.mono ?_;rintro e w2 ⟨ss,A,c,rfl,h1,h2,hb⟩)
 go_ret;exact ⟨ss,A,c,rfl,h1,h2,hb⟩
end
section
open Go.RowKit
theorem Less_any (x y:Int) (w:World):Calls Tryz.prog 161 #[.int .u32 x,.int .u32 y] w fun e w'=>e=.returned (.bool (decide (x<y)))/\w'=w:=by
 have hx:(x != x)=false:=by simp
 have hy:(y != y)=false:=by simp
 go_enter Tryz.func161,Tryz.ntmps161;go_wp2;go_ret;exact ⟨retB rfl,rfl⟩
def swapL (l:List Int) (j:Nat):List Int:=(l.set (j+1) (l.getD j 0)).set j (l.getD (j+1) 0)
theorem swapL_get (l:List Int) (j p:Nat) (h:j+1<l.length):(swapL l j).getD p 0=if p=j then l.getD (j+1) 0 else if p=j+1 then l.getD j 0 else l.getD p 0:=by
 unfold swapL
 have g:∀ (m:List Int) (a k:Nat) (v:Int),a<m.length->(m.set a v).getD k 0=if k=a then v else m.getD k 0:=by
  intro m a k v ha;rw [List.getD_eq_getElem?_getD,List.getD_eq_getElem?_getD,List.getElem?_set];by_cases hk:a=k
  ·subst hk;rw [if_pos rfl,if_pos ha,if_pos rfl];rfl
  ·rw [if_neg hk,if_neg (fun e=>hk e.symm)]
 rw [g _ _ _ _ (by rw [List.length_set];omega),g _ _ _ _ h]
theorem swapL_perm:∀ (l:List Int) (j:Nat),j+1<l.length->(swapL l j).Perm l
 | [],j,h=>by simp at h
 | [a],j,h=>by simp at h
 | a::b::l,0,h=>by
  show (b::a::l).Perm (a::b::l);exact List.Perm.swap a b l
 | a::b::l,j+1,h=>by
  have ih:=swapL_perm (b::l) j (by simpa using h);exact ih.cons a
def SrtJ (l:List Int) (i j:Nat):Prop:=(∀ p q,p<q->q<=i->p≠j->q≠j->l.getD p 0<=l.getD q 0)/\∀ q,j<q->q<=i->l.getD j 0<=l.getD q 0
def Srt (l:List Int) (i:Nat):Prop:=∀ p q,p<q->q<i->l.getD p 0<=l.getD q 0
theorem SrtJ.start {l:List Int} {i:Nat} (h:Srt l i):SrtJ l i i:=⟨fun p q hp hq h1 h2=>h p q hp (by omega),fun q h1 h2=>by omega⟩
theorem SrtJ.done {l:List Int} {i j:Nat} (h:SrtJ l i j) (hj:j=0\/l.getD (j-1) 0<=l.getD j 0):Srt l (i+1):=by
 intro p q hp hq;by_cases h1:p=j
 ·subst h1;exact h.2 q hp (by omega)
 ·by_cases h2:q=j
  ·subst h2
   rcases hj with hj | hj
   ·omega
   ·by_cases h3:p=q-1
    ·subst h3;exact hj
    ·exact Int.le_trans (h.1 p (q-1) (by omega) (by omega) h1 (by omega)) hj
  ·exact h.1 p q hp (by omega) h1 h2
theorem SrtJ.swap {l:List Int} {i j:Nat} (h:SrtJ l i (j+1)) (hi:i<l.length) (hj:j+1<=i) (hlt:l.getD (j+1) 0<l.getD j 0):SrtJ (swapL l j) i j:=by
 have hl:j+1<l.length:=by omega
 refine ⟨fun p q hp hq h1 h2=>?_,fun q h1 h2=>?_⟩
 ·rw [swapL_get l j p hl,swapL_get l j q hl,if_neg h1,if_neg h2];by_cases h3:p=j+1
  ·rw [if_pos h3,if_neg (by omega)];exact h.1 j q (by omega) hq (by omega) (by omega)
  ·rw [if_neg h3];by_cases h4:q=j+1
   ·rw [if_pos h4];exact h.1 p j (by omega) (by omega) (by omega) (by omega)
   ·rw [if_neg h4];exact h.1 p q hp hq (by omega) (by omega)
 ·rw [swapL_get l j j hl,swapL_get l j q hl,if_pos rfl,if_neg (by omega)];by_cases h3:q=j+1
  ·rw [if_pos h3];omega
  ·rw [if_neg h3];exact h.2 q (by omega) h2
abbrev RowS (w:World) (base g cap n:Nat) (l:List Int):Prop:=w.ownsRow base 22 1 (.slice (some ⟨g,0,none⟩) n cap) n (us l)
theorem rowS_cell {w:World} {base g cap n:Nat} {l:List Int} (h:RowS w base g cap n l) {j:Nat} (hj:j<n):w.cell? ⟨g,j,none⟩=some (.int .u32 (l.getD j 0))/\w.frozen? ⟨g,j,none⟩=false/\l.length=n/\n<=cap:=by
 have hl:l.length=n:=by have:=h.1;rw [us_len] at this;omega
 rcases h.2 with ⟨h0,_⟩ | ⟨g',cap',cur,e1,h2,h3,h4,h5,h6,h7⟩
 ·cases h0
 ·simp only [Value.slice.injEq,Option.some.injEq,Addr.mk.injEq] at e1;obtain ⟨⟨rfl,_⟩,_,rfl⟩:=e1;refine ⟨?_,?_,hl,h4⟩
  ·have hu:(us l)[j]?=some (.int .u32 (l.getD j 0)):=by
    unfold us;rw [List.getElem?_map,List.getD_eq_getElem?_getD,gE (show j<l.length by omega)];rfl
   rw [<-h7,List.getElem?_take,if_pos (by omega)] at hu;unfold World.cell?;rw [h3]
   simpa using hu
  ·unfold World.frozen?;rw [h3];simp
theorem insSort_any {base g cap:Nat} (l:List Int) (w:World) (ho:RowS w base g cap l.length l) (hl:l.length<=900) :
 Calls Tryz.prog 155 #[.slice (some ⟨g,0,none⟩) l.length cap,.int .i64 0,.int .i64 l.length] w fun e w'=>e=.returned (.tuple #[])/\∃ l':List Int,l'.Perm l/\Srt l' l.length/\RowS w' base g cap l.length l'/\Fr (fun k=>k=g) w w':=by
 go_enter Tryz.func155,Tryz.ntmps155;go_wp2
 go_loopw [6] (fun i wr=>∃ (k:Nat) (l':List Int),1<=k/\i=.int .i64 k/\k<=l.length+1/\l'.Perm l/\Srt l' k/\RowS wr base g cap l.length l'/\Fr (fun k=>k=g) w wr) (fun i _=>l.length+1-(intOf i).toNat)
 case atStart=>exact ⟨1,l,nR _,rfl,by omega,List.Perm.refl _,fun p q hp hq=>by omega,ho,Fr.refl _ _⟩
 case round =>
  clear ho;obtain ⟨k,l1,hk1,rfl,hk2,hp1,hs1,ho1,hf1⟩:=hrel;by_cases hlt:k<l.length
  ·have d1:decide (k<l.length)=true:=dT hlt;have hl1:l1.length=l.length:=hp1.length_eq;go_wp2
   go_loopw [7] (fun jv wr2=>∃ (j:Nat) (l2:List Int),jv=.int .i64 j/\j<=k/\l2.Perm l/\SrtJ l2 k j/\RowS wr2 base g cap l.length l2/\Fr (fun k=>k=g) w wr2) (fun jv _=>(intOf jv).toNat)
   case atStart=>exact ⟨k,l1,rfl,nR _,hp1,SrtJ.start hs1,ho1,hf1⟩
   case round =>
    clear hp1 hs1 ho1 hf1;obtain ⟨j,l2,rfl,hjk,hp2,hs2,ho2,hf2⟩:=hrel
    obtain ⟨wo,rfl⟩:∃ wo,wo=wr:=⟨wr,rfl⟩
    have hl2:l2.length=l.length:=hp2.length_eq
    rcases Nat.eq_zero_or_pos j with hj0 | hj0
    ·subst hj0;have z0:((0:Nat):Int)=0:=rfl;have hsd:=hs2.done (.inl rfl)
     go_wp2_with fail
     go_quiet (fail)
     have ho3:RowS (wo.drewN nq) base g cap l.length l2:=ho2
     have hf3:Fr (fun k=>k=g) w (wo.drewN nq):=⟨hf2.os,hf2.tape,hf2.output,hf2.size,hf2.block⟩
     obtain ⟨W,hW⟩:∃ W,wo.drewN nq=W:=⟨_,rfl⟩
     rw [hW] at ho3 hf3 ⊢;clear hW;go_wp2
     go_roundw
     case rel=>exact ⟨k+1,l2,by omega,by go_num,by omega,hp2,hsd,ho3,hf3⟩
     case measure=>simp [intOf];omega
    ·have d2:decide (0<j)=true:=dT hj0
     obtain ⟨m,rfl⟩:∃ m,j=m+1:=⟨j-1,by omega⟩
     obtain ⟨c1,f1,_,hcap⟩:=rowS_cell ho2 (j:=m+1) (by omega);obtain ⟨c0,f0,_,_⟩:=rowS_cell ho2 (j:=m) (by omega)
     obtain ⟨x,HX⟩:∃ x,Hid (l2.getD (m+1) 0=x):=⟨_,lH rfl⟩
     obtain ⟨y,HY⟩:∃ x,Hid (l2.getD m 0=x):=⟨_,lH rfl⟩
     rw [HX.out] at c1;rw [HY.out] at c0;have hL:=fun n=>Less_any x y (wo.drewN n)
     obtain ⟨q,HQ⟩:∃ q,Hid (decide (x<y)=q):=⟨_,lH rfl⟩
     rw [HQ.out] at hL
     obtain ⟨jj,HJ⟩:∃ jj,Hid (m+1=jj):=⟨_,lH rfl⟩
     rw [HJ.out] at c1 f1 d2 ⊢
     have a1:IntKind.i64.wrap ((jj:Int)-1)=(jj:Int)-1:=by have:=HJ.out;rw [IntKind.wrap_i64];omega
     have a2:(0:Int)<=(jj:Int)-1:=by have:=HJ.out;omega
     have a3:(jj:Int)-1<(l.length:Int):=by have:=HJ.out;omega
     have a4:((jj:Int)-1).toNat=m:=by have:=HJ.out;omega
     have a5:(0:Int)<=(jj:Int):=by omega
     have a6:(jj:Int)<(l.length:Int):=by have:=HJ.out;omega
     have a7:¬ ((jj:Int)-1<0):=by omega
     have a8:(1:Int)<=(jj:Int):=by omega
     go_wp2_with fail
     go_quiet (first | (go_at_call 161;exact Calls.quiet_of_same (hL _)))
     have ho3:RowS (wo.drewN nq) base g cap l.length l2:=ho2
     have hf3:Fr (fun k=>k=g) w (wo.drewN nq):=⟨hf2.os,hf2.tape,hf2.output,hf2.size,hf2.block⟩
     obtain ⟨W,hW⟩:∃ W,wo.drewN nq=W:=⟨_,rfl⟩
     rw [hW] at ho3 hf3 ⊢;clear hW ho2 hf2 hL
     have hml:m+1<l2.length:=by have:=HJ.out;omega
     cases q with
     | false =>
      have hsd:=hs2.done (.inr (by rw [show m+1-1=m from rfl,HX.out,HY.out];have:=of_decide_eq_false HQ.out;omega));go_wp2
      go_roundw
      case rel=>exact ⟨k+1,l2,by omega,by go_num,by omega,hp2,hsd,ho3,hf3⟩
      case measure=>simp [intOf];omega
     | true =>
      have hlt2:l2.getD (m+1) 0<l2.getD m 0:=by rw [HX.out,HY.out];exact of_decide_eq_true HQ.out
      obtain ⟨e1,g1,_,_⟩:=rowS_cell (w:=W.drew) (g:=g) (cap:=cap) (base:=base) (n:=l.length) (l:=l2) ho3 (j:=m+1) (by omega);obtain ⟨e0,g0,_,_⟩:=rowS_cell (w:=W.drew) (g:=g) (cap:=cap) (base:=base) (n:=l.length) (l:=l2) ho3 (j:=m) (by omega);rw [HX.out,HJ.out] at e1;rw [HJ.out] at g1;rw [HY.out] at e0;have hst1:=(World.ownsRow.stored (w:=W.drew) (g:=g) (cap:=cap) ho3 jj (.int .u32 y)).1;have hst2:=(World.ownsRow.stored hst1 m (.int .u32 x)).1
      have hsw:((us l2).set jj (.int .u32 y)).set m (.int .u32 x)=us (swapL l2 m):=by
       unfold swapL us;rw [HX.out,HY.out,HJ.out,List.map_set,List.map_set];rfl
      have hf4:Fr (fun k=>k=g) w ((W.drew.setCell ⟨g,jj,none⟩ (.int .u32 y)).setCell ⟨g,m,none⟩ (.int .u32 x)):=(show Fr (fun k=>k=g) w W.drew from ⟨hf3.os,hf3.tape,hf3.output,hf3.size,hf3.block⟩).trans ((set_frX (X:=fun k=>k=g) rfl).trans (set_frX (X:=fun k=>k=g) rfl))
      have hjm:¬ jj=m:=by have:=HJ.out;omega
      have hmj:¬ m=jj:=by have:=HJ.out;omega
      clear c1 c0 f1 f0;have e0w:W.cell? ⟨g,m,none⟩=some (.int .u32 y):=e0;have g0w:W.frozen? ⟨g,m,none⟩=false:=g0;have e1w:W.cell? ⟨g,jj,none⟩=some (.int .u32 x):=e1;have g1w:W.frozen? ⟨g,jj,none⟩=false:=g1
      go_wp2_with fail
      refine regionE 16 (fun _=>True) (by kernel_rfl) (by kernel_rfl) (by kernel_rfl) (by kernel_rfl) (by kernel_rfl) (trivial) (fun hHeld hTl=>?_);refine tkT 0 (v:=?_) hTl hHeld rfl ?_ (fun hTl=>?_);rotate_left
      ·intro w hSw;(try dsimp only at hSw);go_simp;all_goals with_reducible rfl
      try simp only [pT]
      refine tkT 1 (v:=?_) hTl hHeld rfl ?_ (fun hTl=>?_);rotate_left
      ·intro w hSw;(try dsimp only at hSw);go_simp;all_goals with_reducible rfl
      try simp only [pT]
      refine tkT 2 (v:=?_) hTl hHeld rfl ?_ (fun hTl=>?_);rotate_left
      ·intro w hSw;(try dsimp only at hSw);go_simp;all_goals with_reducible rfl
      try simp only [pT]
      refine tkT 3 (v:=?_) hTl hHeld rfl ?_ (fun hTl=>?_);rotate_left
      ·intro w hSw;(try dsimp only at hSw);go_simp;all_goals with_reducible rfl
      try simp only [pT]
      refine tkT 4 (v:=?_) hTl hHeld rfl ?_ (fun hTl=>?_);rotate_left
      ·intro w hSw;(try dsimp only at hSw);go_simp;all_goals with_reducible rfl
      try simp only [pT]
      refine tkT 5 (v:=?_) hTl hHeld rfl ?_ (fun hTl=>?_);rotate_left
      ·intro w hSw;(try dsimp only at hSw);go_simp;all_goals with_reducible rfl
      try simp only [pT]
      refine tkT 6 (v:=?_) hTl hHeld rfl ?_ (fun hTl=>?_);rotate_left
      ·intro w hSw;(try dsimp only at hSw);go_simp;all_goals with_reducible rfl
      try simp only [pT]
      refine tkT 7 (v:=?_) hTl hHeld rfl ?_ (fun hTl=>?_);rotate_left
      ·intro w hSw;(try dsimp only at hSw);go_simp;all_goals with_reducible rfl
      try simp only [pT]
      refine tkT 8 (v:=?_) hTl hHeld rfl ?_ (fun hTl=>?_);rotate_left
      ·intro w hSw;(try dsimp only at hSw);go_simp;all_goals with_reducible rfl
      try simp only [pT]
      refine tkT 10 (v:=?_) hTl hHeld rfl ?_ (fun hTl=>?_);rotate_left
      ·intro w hSw;(try dsimp only at hSw);go_simp;all_goals with_reducible rfl
      try simp only [pT]
      refine tkT 11 (v:=?_) hTl hHeld rfl ?_ (fun hTl=>?_);rotate_left
      ·intro w hSw;(try dsimp only at hSw);go_simp;all_goals with_reducible rfl
      try simp only [pT]
      refine tkT 12 (v:=?_) hTl hHeld rfl ?_ (fun hTl=>?_);rotate_left
      ·intro w hSw;(try dsimp only at hSw);go_simp;all_goals with_reducible rfl
      try simp only [pT]
      have hA:=(hTl.step 9 (by kernel_rfl) (by decide)).step 13 (by kernel_rfl) (by decide);have hB:=(hTl.step 13 (by kernel_rfl) (by decide)).step 9 (by kernel_rfl) (by decide);clear hTl;refine twoE 9 13 rfl rfl (by kernel_rfl) (fun K hK=>?_) (fun K hK=>?_)
      ·skip
       go_simp;refine hK.out _ _ (fun _=>trivial) ?_;clear hK K
       try simp only [pT]
       refine oneE 13 rfl (by kernel_rfl) (fun K hK=>?_);go_simp;refine hK.out _ _ (fun _=>trivial) ?_;clear hK K
       try simp only [pT]
       refine oneE 14 rfl (by kernel_rfl) (fun K hK=>?_);go_simp;refine hK.out _ _ (fun _=>trivial) ?_;clear hK K
       try simp only [pT]
       refine oneE 15 rfl (by kernel_rfl) (fun K hK=>?_);go_simp;refine hK.out _ _ (fun _=>trivial) ?_;clear hK K
       try simp only [pT]
       have hTl:=(hA.step 14 (by kernel_rfl) (by decide)).step 15 (by kernel_rfl) (by decide);have hHeld:True:=trivial;refine oneE 16 rfl (by kernel_rfl) (fun K hK=>?_);go_simp;refine hK.out _ _ (fun h=>absurd h (by decide)) ?_;clear hK K
       try simp only [pT]
       refine oneE 17 rfl (by kernel_rfl) (fun K hK=>?_);go_simp;refine hK.out _ _ (fun h=>absurd h (by decide)) ?_;clear hK K
       try simp only [pT]
       refine doneE (by kernel_rfl) ?_ _;go_wp2
       go_roundw
       case rel=>exact ⟨m,swapL l2 m,by go_num,by have:=HJ.out;omega,(swapL_perm l2 m hml).trans hp2,hs2.swap (by omega) (by omega) hlt2,(by have:=hst2;rw [hsw] at this;exact this),hf4⟩
       case measure=>simp [intOf];have:=HJ.out;omega
      ·skip
       go_simp;refine hK.out _ _ (fun _=>trivial) ?_;clear hK K
       try simp only [pT]
       refine oneE 9 rfl (by kernel_rfl) (fun K hK=>?_);go_simp;refine hK.out _ _ (fun _=>trivial) ?_;clear hK K
       try simp only [pT]
       refine oneE 14 rfl (by kernel_rfl) (fun K hK=>?_);go_simp;refine hK.out _ _ (fun _=>trivial) ?_;clear hK K
       try simp only [pT]
       refine oneE 15 rfl (by kernel_rfl) (fun K hK=>?_);go_simp;refine hK.out _ _ (fun _=>trivial) ?_;clear hK K
       try simp only [pT]
       have hTl:=(hB.step 14 (by kernel_rfl) (by decide)).step 15 (by kernel_rfl) (by decide);have hHeld:True:=trivial;refine oneE 16 rfl (by kernel_rfl) (fun K hK=>?_);go_simp;refine hK.out _ _ (fun h=>absurd h (by decide)) ?_;clear hK K
       try simp only [pT]
       refine oneE 17 rfl (by kernel_rfl) (fun K hK=>?_);go_simp;refine hK.out _ _ (fun h=>absurd h (by decide)) ?_;clear hK K
       try simp only [pT]
       refine doneE (by kernel_rfl) ?_ _;go_wp2
       go_roundw
       case rel=>exact ⟨m,swapL l2 m,by go_num,by have:=HJ.out;omega,(swapL_perm l2 m hml).trans hp2,hs2.swap (by omega) (by omega) hlt2,(by have:=hst2;rw [hsw] at this;exact this),hf4⟩
       case measure=>simp [intOf];have:=HJ.out;omega
  ·have d1:decide (k<l.length)=false:=dF hlt;go_wp2
   go_end0
   exact ⟨rfl,l1,hp1,fun p q hp hq=>hs1 p q hp (by omega),ho1,hf1⟩
end
section
open Go.RowKit Go.Maps Go.Sort Go.Shelf
theorem Len64_small (n:Nat) (hn:n<256) (w:World):Calls Tryz.prog 165 #[.int .u64 (n:Nat)] w fun e w'=>(∃ r:Int,e=.returned (.int .i64 r))/\w'=w:=by
 have d1:decide ((4294967296:Int)<=(n:Int))=false:=dF (by omega);have d2:decide ((65536:Int)<=(n:Int))=false:=dF (by omega);have d3:decide ((256:Int)<=(n:Int))=false:=dF (by omega);go_enter Tryz.func165,Tryz.ntmps165;go_wp2;go_ret;exact ⟨⟨_,rfl⟩,rfl⟩
theorem Len_small (n:Nat) (hn:n<256) (w:World):Calls Tryz.prog 110 #[.int .u64 (n:Nat)] w fun e w'=>(∃ r:Int,e=.returned (.int .i64 r))/\w'=w:=by
 have h:=Len64_small n hn w;go_enter Tryz.func110,Tryz.ntmps110
 go_wp2_with (go_at_call 165;refine h.mono ?_;rintro e w2 ⟨⟨r,rfl⟩,h2⟩;have h2:=h2.symm;subst h2)
 go_ret;exact ⟨⟨_,rfl⟩,rfl⟩
theorem insSort_nil (c:Nat) (w:World):Calls Tryz.prog 155 #[.slice none 0 c,.int .i64 0,.int .i64 0] w fun e w'=>e=.returned (.tuple #[])/\w'=w:=by
 go_enter Tryz.func155,Tryz.ntmps155;go_wp2
 go_loopw [6] (fun i wr=>i=.int .i64 1/\wr=w) (fun i _=>0)
 case atStart=>exact ⟨rfl,rfl⟩
 case round =>
  obtain ⟨rfl,rfl⟩:=hrel;go_wp2
  go_end0
  exact ⟨rfl,rfl⟩
theorem insSort_row {base c:Nat} {A:Option Addr} (l:List Int) (w:World) (ho:w.ownsRow base 22 1 (.slice A l.length c) l.length (us l)) (hb:base<=w.heap.size) (hl:l.length<=900) :
 Calls Tryz.prog 155 #[.slice A l.length c,.int .i64 0,.int .i64 l.length] w fun e w'=>e=.returned (.tuple #[])/\∃ l':List Int,l'.Perm l/\Srt l' l.length/\w'.ownsRow base 22 1 (.slice A l.length c) l.length (us l')/\Below base w w':=by
 rcases ho.2 with ⟨h0,h1⟩ | ⟨g,cap,cur,e1,h2,h3⟩
 ·have hl0:l=[]:=by cases l with
   | nil=>rfl
   | cons a l=>simp [us] at h1
  subst hl0;simp only [Value.slice.injEq] at h0;obtain ⟨rfl,_,_⟩:=h0;refine (insSort_nil c w).mono ?_;rintro e w2 ⟨rfl,h2⟩;have h2:=h2.symm;subst h2;exact ⟨rfl,[],List.Perm.refl _,fun p q _ hq=>absurd hq (by simp),ho,bR _ _⟩
 ·simp only [Value.slice.injEq] at e1;obtain ⟨rfl,_,rfl⟩:=e1;refine (insSort_any l w ho hl).mono ?_;rintro e w2 ⟨rfl,l',hp,hs,ho2,hf⟩;exact ⟨rfl,l',hp,hs,ho2,hf.below hb fun k hk=>by have hk:k=g:=hk;omega⟩
theorem pdq_row {base c:Nat} {A:Option Addr} (l:List Int) (w:World) (ho:w.ownsRow base 22 1 (.slice A l.length c) l.length (us l)) (hb:base<=w.heap.size) (hl:l.length<=12) (r:Int) :
 Calls Tryz.prog 109 #[.slice A l.length c,.int .i64 0,.int .i64 l.length,.int .i64 r] w fun e w'=>e=.returned (.tuple #[])/\∃ l':List Int,l'.Perm l/\Srt l' l.length/\w'.ownsRow base 22 1 (.slice A l.length c) l.length (us l')/\Below base w w':=by
 have hI:=insSort_row l w ho hb (by omega);have d1:decide ((l.length:Int)<=12)=true:=dT (by omega);have d2:decide (l.length<=12)=true:=dT hl
 have a1:IntKind.i64.wrap ((l.length:Int)-0)=(l.length:Int):=by rw [IntKind.wrap_i64];omega
 have a2:IntKind.i64.wrap (l.length:Int)=(l.length:Int):=by rw [IntKind.wrap_i64];omega
 have HI:=lH hI;have HB:=lH hb;clear ho hI hb;go_enter Tryz.func109,Tryz.ntmps109;go_wp2
 go_loopw [1,2] (fun a b wr=>a=.int .i64 0/\b=.int .i64 l.length/\wr=w) (fun _ _ _=>0)
 case atStart=>exact ⟨rfl,rfl,rfl⟩
 case round =>
  obtain ⟨rfl,rfl,rfl⟩:=hrel
  go_wp2_with (go_at_call 155;refine HI.out.mono ?_;rintro e w2 ⟨rfl,l',h1,h2,h3,h4⟩)
  refine bodyPost_ret (results_none rfl _ _ _) rfl ?_;exact ⟨rfl,l',h1,h2,h3,h4⟩
theorem sort_row {base c:Nat} {A:Option Addr} (l:List Int) (w:World) (ho:w.ownsRow base 22 1 (.slice A l.length c) l.length (us l)) (hb:base<=w.heap.size) (hl:l.length<=12) :
 Calls Tryz.prog 88 #[.slice A l.length c] w fun e w'=>e=.returned (.tuple #[])/\∃ l':List Int,l'.Perm l/\Srt l' l.length/\w'.ownsRow base 22 1 (.slice A l.length c) l.length (us l')/\Below base w w':=by
 have hP:=pdq_row l w ho hb hl;have hL:=Len_small l.length (by omega) w
 have a1:IntKind.u64.wrap (l.length:Int)=(l.length:Int):=by rw [IntKind.wrap_u64];omega
 have HP:=lH hP;clear ho hP hb;go_enter Tryz.func88,Tryz.ntmps88
 go_wp2_with (first
  | (go_at_call 110;refine hL.mono ?_;rintro e w2 ⟨⟨r,rfl⟩,h2⟩;have h2:=h2.symm;subst h2)
  | (go_at_call 109;refine (HP.out _).mono ?_;rintro e w2 ⟨rfl,l',h1,h2,h3,h4⟩))
 go_end0
 exact ⟨rfl,l',h1,h2,h3,h4⟩
theorem sorted_any {H:Type} (Bm b nn:Nat) (D0:DataW H) {R:Value->Option (DataW H × List MemPlace)} (w:World) (hBm:Bm<w.heap.size) (hm:w.cell? ⟨Bm,0,none⟩=some (.map (some b))) (hown:w.ownsMap Tryz.prog 22 R b nn D0) (hN:Maps.size D0<=900) (h12:∀ ss:List Int,ss.Nodup->(∀ x,x∈ss↔has D0 (.int .u32 x)=true)->ss.length<=12) :
 Calls Tryz.prog 66 #[.func (.func 89) #[] #[.pointer (some ⟨Bm,0,none⟩)]] w fun e w'=>∃ (ss:List Int) (A:Option Addr) (c:Nat),e=.returned (.slice A ss.length c)/\(ss.Nodup/\(∀ x,x∈ss↔has D0 (.int .u32 x)=true)/\Srt ss ss.length) /\
  w'.ownsRow w.heap.size 22 1 (.slice A ss.length c) ss.length (us ss)/\Below w.heap.size w w':=by
 have hA:=collect_any Bm b nn D0 w hBm hm hown hN;clear hown;go_enter Tryz.func66,Tryz.ntmps66
 go_wp2_with (first
  | (go_at_call 87;refine hA.mono ?_;rintro e w2 ⟨ss,A,c,rfl,h1,h2,hb⟩)
  | (go_at_call 88;refine (sort_row ss w2 h2 hb.size (h12 ss h1.1 h1.2)).mono ?_;rintro e w3 ⟨rfl,l',hp,hs,h3,hb3⟩))
 go_ret;refine ⟨l',A,c,?_,⟨hp.nodup_iff.2 h1.1,fun x=>hp.mem_iff.trans (h1.2 x),?_⟩,?_,hb.trans hb3⟩
 ·rw [hp.length_eq];rfl
 ·rw [hp.length_eq];exact hs
 ·rw [hp.length_eq];exact h3
end
end Go.Proofs.YtenfkghoolegfaaGreatDoor
