/- A part of the proof of ScanWild. No condition of its own. -/
import Derived.Test.YtgohffhoapkeaaaGreatDoorVz
import Derived.Test.YtgohffhoapkeaaaGreatDoorZd
import Derived.RangeFuncLeaves
import Derived.RangeFuncFrom
import Derived.WalkKit
import Derived.OwnWalkIn
import Derived.TacticsInMore
import Derived.LoopNIn
import Derived.LoopIn
import Derived.Shelf.Abstract
import Derived.Laws.Bits64b
import Derived.Conc.WgArith
import Derived.RangeFuncWrites
import Derived.RangeFuncNested
import Derived.RangeFuncBound
import Derived.RangeFuncCalls
set_option maxHeartbeats 4000000
set_option maxRecDepth 1000000
set_option linter.unusedVariables false
namespace Go.Proofs.YtgohffhoapkeaaaGreatDoor
section
open Go.RowKit
attribute [local go_sem] Oper.semAt_some
def back (b:List UInt8) (k:Nat):List (Nat × UInt8):=(List.range k).map fun j=>(b.length-1-j,b.getD (b.length-1-j) 0)
theorem mR (b:List UInt8) (k:Nat):back b (k+1)=back b k++[(b.length-1-k,b.getD (b.length-1-k) 0)]:=by simp [back,List.range_succ]
theorem vm (b:List UInt8) (k:Nat):(back b k).length=k:=by simp [back]
def lI (n₀ Bs:Nat) (A B:World):Prop:=Below n₀ A B/\B.cell? ⟨Bs,0,none⟩=A.cell? ⟨Bs,0,none⟩
theorem CL (F:Fence) (n:Nat) (hF:F.fn 180) (hro:F.round=none) (hn:1<=n) (l Bs n₀ cap:Nat) (a:Addr) (b:List UInt8) (hreach:b.length<=1000) (hb:a.block<n₀) (J Jx:List (Nat × UInt8)->World->Prop)
 (hY:∀ pre x W,J pre W->pre.length<b.length->YieldAt F (n-1) Tryz.prog l #[.int .i64 (x.1:Int),.int .u8 (x.2.toNat:Int)] W fun e W' =>
  (e=.returned (.bool true)/\J (pre++[x]) W'/\lI n₀ Bs W W')\/(e=.returned (.bool false)/\Jx (pre++[x]) W'))
 (W:World) (hBs:W.cell? ⟨Bs,0,none⟩=some (.slice (some a) b.length cap)) (hc:∀ j,j<b.length->W.cell? (a.add j)=some (.int .u8 ((b.getD j 0).toNat:Int))) (h0:J [] W) :
 CallsIn F n Tryz.prog 180 #[.func (.yield l) #[] #[],.pointer (some ⟨Bs,0,none⟩)] W fun e W'=>(∃ v,e=.returned v) /\
  ((∃ ys,ys=back b b.length/\J ys W')\/(∃ pre,(∃ k,k<=b.length/\pre=back b k)/\Jx pre W')):=by
 refine callsIn_of_wp Tryz.func180 rfl hF ?_ hro;simp only [Tryz.ntmps180,List.size_toArray,List.length_cons,List.length_nil,Nat.reduceAdd,Nat.reduceSub,Array.replicate_succ,Array.replicate_zero,List.push_toArray,List.append_toArray,List.nil_append,List.cons_append]
 gi_wp2
 gi_loopw [3] (fun i wr=>∃ k:Nat,k<=b.length/\i=.int .i64 ((b.length:Int)-1-(k:Int))/\J (back b k) wr/\lI n₀ Bs W wr)
  (fun i _=>(intOf i+1).toNat)
 case atStart=>exact ⟨0,zL _,by simp,h0,bR _ _,rfl⟩
 case round =>
  obtain ⟨k,hk,rfl,hJs,hnx,hbx⟩:=hrel;have hbs:=hbx.trans hBs;by_cases hlt:k<b.length
  ·obtain ⟨m,hm⟩:∃ m,b.length-1-k=m:=⟨_,rfl⟩
   have e:(b.length:Int)-1-(k:Int)=(m:Nat):=by omega
   have hml:m<b.length:=by omega
   obtain ⟨y,hyv⟩:∃ y,b.getD m 0=y:=⟨_,rfl⟩
   obtain ⟨fn,tmps,assign,body,hy,hR⟩:=hY _ (m,y) wr hJs (by rw [vm];exact hlt);dsimp only at hy;have hcx:wr.cell? (a.add m)=some (.int .u8 ((b.getD m 0).toNat:Int)):=(hnx.cell (p:=a.add m) (by unfold Addr.add;split <;> exact hb)).trans (hc m hml);rw [hyv] at hcx
   have m0:(0:Int)<=(m:Int):=by omega
   have m1:(m:Int)<(b.length:Int):=by omega
   have HB:=lH hbx;clear hbx;have HM:=lH (aI hm (aI e hyv));rw [e];clear hm e hml hyv
   gi_wp2
   refine hR.mono ?_;rintro e W3 (⟨rfl,hJ3,hk3⟩ | ⟨rfl,hJx3⟩)
   ·gi_wp2
    go_roundw
    case rel=>exact ⟨k+1,by omega,by have:=HM.out.2.1;first | (congr 1;omega) | go_num,by rw [mR,HM.out.1,HM.out.2.2];exact hJ3,hnx.trans hk3.1,hk3.2.trans HB.out⟩
    case measure=>have:=HM.out.2.1;first | (simp [intOf];done) | (simp [intOf];omega)
   ·gi_wp2
    refine bodyPost_ret (results_none rfl _ _ _) rfl ?_;exact ⟨⟨_,rfl⟩,.inr ⟨_,⟨k+1,by omega,by rw [mR,HM.out.1,HM.out.2.2]⟩,hJx3⟩⟩
  ·obtain rfl:k=b.length:=by omega
   have e:(b.length:Int)-1-(b.length:Int)=-1:=by omega
   rw [e];clear e
   gi_wp2
   go_end0
   exact ⟨⟨_,rfl⟩,.inl ⟨_,rfl,hJs⟩⟩
attribute [local go_sem] Oper.semAt_some
theorem kP (F:Fence) (n:Nat) (hF:F.fn 180) (hro:F.round=none) (hn:1<=n) (Bs n₀ cap:Nat) (a:Addr) (b:List UInt8) (hreach:b.length<=1000) (w:World) (hBl:Bs<w.heap.size) (hn₀:n₀<=w.heap.size) (hb:a.block<n₀)
 (hBs:w.cell? ⟨Bs,0,none⟩=some (.slice (some a) b.length cap)) (hc:∀ j,j<b.length->w.cell? (a.add j)=some (.int .u8 ((b.getD j 0).toNat:Int))) :
 SeqStopsK F n Tryz.prog 180 #[.pointer (some ⟨Bs,0,none⟩)] (fun x:Nat × UInt8=>#[Value.int .i64 (x.1:Int),Value.int .u8 (x.2.toNat:Int)]) (lI n₀ Bs) (fun ys=>ys=back b b.length)
  (fun pre=>∃ k,k<=b.length/\pre=back b k) b.length w:=fun l J Jx W hW _ _ hY h0=>by
 have hBs':=(hW.cell (p:=⟨Bs,0,none⟩) hBl).trans hBs;have hc':∀ j,j<b.length->W.cell? (a.add j)=some (.int .u8 ((b.getD j 0).toNat:Int)):=fun j hj=>(hW.cell (p:=a.add j) (by unfold Addr.add;split <;> exact lT hb hn₀)).trans (hc j hj);exact CL F n hF hro hn l Bs n₀ cap a b hreach hb J Jx hY W hBs' hc' h0
theorem tt (A:Option Addr) (n c:Nat) (w:World):Calls Tryz.prog 173 #[.slice A n c] w fun e w'=>e=.returned (.func (.func 180) #[] #[.pointer (some ⟨w.heap.size,0,none⟩)])/\w'=w.alloc (.cells #[.slice A n c] 23):=by
 go_enter Tryz.func173,Tryz.ntmps173;go_wp2;go_ret;exact ⟨rfl,rfl⟩
def pA (pre:List (Nat × UInt8)):Nat:=pre.foldl (fun n x=>n*128+x.2.toNat % 128) 0
theorem rY (pre:List (Nat × UInt8)) (x:Nat × UInt8):pA (pre++[x])=pA pre*128+x.2.toNat % 128:=by simp [pA]
theorem rZ (b:List UInt8):∀ k,k<=b.length->pA (back b k)=cZ (b.drop (b.length-k))
 | 0,_=>by simp [back,pA,cZ]
 | k+1,h=>by
  rw [mR,rY,rZ b k (by omega)]
  have hlt:b.length-1-k<b.length:=by omega
  have e:b.drop (b.length-(k+1))=b[b.length-1-k]::b.drop (b.length-k):=by
   rw [show b.length-(k+1)=b.length-1-k by omega,show b.length-k=b.length-1-k+1 by omega,List.getElem_cons_drop]
  rw [e,cZ]
  have e2:b.getD (b.length-1-k) 0=b[b.length-1-k]:=by rw [List.getD_eq_getElem?_getD,gE hlt];rfl
  rw [e2]
theorem mS (b:List UInt8):pA (back b b.length)=cZ b:=by
 rw [rZ b b.length (nR _),Nat.sub_self,List.drop_zero]
theorem pB:∀ (b:List UInt8),cZ b<128 ^ b.length
 | []=>by simp [cZ]
 | c::r=>by
  have:=pB r;rw [cZ,List.length_cons,Nat.pow_succ];omega
theorem tu {n₀ Bs:Nat} {A B C:World} (h:lI n₀ Bs A B) (h2:lI n₀ Bs B C):lI n₀ Bs A C:=⟨h.1.trans h2.1,h2.2.trans h.2⟩
attribute [local go_sem] Oper.semAt_some
theorem xB {B:Nat} (A:Option Addr) (cc:Nat) (b:List UInt8) (w:World) (hB:B<=w.heap.size) (hr:Reads w B 1 A b.length (bl b)) (hcap:b.length<=cc) (hl:b.length<10) (hi:low b 0=none) :
 Calls Tryz.prog 155 #[.slice A b.length cc] w fun e w'=>e=.returned (.tuple #[.int .u64 0,.int .i64 0,.int .i64 10])/\Below w.heap.size w w':=by
 have hI:=bZ A cc b hr hB (by omega)
 have e:iw b=-1:=by unfold iw;rw [hi]
 rw [e] at hI
 have hmin:min (b.length:Int) 10=(b.length:Int):=by omega
 have hmif:(if (10:Int)<(b.length:Int) then (10:Int) else (b.length:Int))=(b.length:Int):=by split <;> omega
 have b1:(b.length:Int)<10:=by omega
 refine (callsIn_wide (n:=3)).1 ?_;refine callsIn_of_wp_marks Tryz.func155 rfl trivial ?_ rfl;simp only [Tryz.ntmps155,List.size_toArray,List.length_cons,List.length_nil,Nat.reduceAdd,Nat.reduceSub,Array.replicate_succ,Array.replicate_zero,List.push_toArray,List.append_toArray,List.nil_append,List.cons_append]
 gi_wp2_with (refine ⟨trivial,?_⟩;gi_at_call 171;refine (callsIn_wide.2 hI).mono ?_;rintro e w1 ⟨rfl,hb⟩)
 refine ⟨_,results_tmp3 rfl _ _ _,?_⟩;exact ⟨rfl,hb⟩
theorem AJ {B:Nat} (A:Option Addr) (cc:Nat) (b:List UInt8) (w:World) (hB:B<=w.heap.size) (hr:Reads w B 1 A b.length (bl b)) (hcap:b.length<=cc) (hl:10<=b.length) (hi:low (b.take 10) 0=none) :
 Calls Tryz.prog 155 #[.slice A b.length cc] w fun e w'=>e=.returned (.tuple #[.int .u64 0,.int .i64 0,.int .i64 11])/\Below w.heap.size w w':=by
 have hl10:(b.take 10).length=10:=by rw [lK];omega
 have hI:=bZ A cc (b.take 10) (by rw [hl10];exact bF hr hl) hB (by omega)
 have e:iw (b.take 10)=-1:=by unfold iw;rw [hi]
 rw [e,hl10] at hI
 have hmin:min (b.length:Int) 10=10:=by omega
 have hmif:(if (10:Int)<(b.length:Int) then (10:Int) else (b.length:Int))=10:=by split <;> omega
 have b0:10<=cc:=by omega
 clear hi e hl10;refine (callsIn_wide (n:=3)).1 ?_;refine callsIn_of_wp_marks Tryz.func155 rfl trivial ?_ rfl;simp only [Tryz.ntmps155,List.size_toArray,List.length_cons,List.length_nil,Nat.reduceAdd,Nat.reduceSub,Array.replicate_succ,Array.replicate_zero,List.push_toArray,List.append_toArray,List.nil_append,List.cons_append]
 gi_wp2_with (refine ⟨trivial,?_⟩;gi_at_call 171;refine (callsIn_wide.2 hI).mono ?_;rintro e w1 ⟨rfl,hb⟩)
 refine ⟨_,results_tmp3 rfl _ _ _,?_⟩;exact ⟨rfl,hb⟩
theorem AK {B:Nat} (a:Addr) (cc L j:Nat) (b:List UInt8) (w:World) (hB:B<=w.heap.size) (hr:Reads w B 1 (some a) b.length (bl b)) (hcap:b.length<=cc) (hL:L=min b.length 10) (hi:low (b.take 10) 0=some j) (hj:0<j) (h0:(b.getD j 0).toNat=0) :
 Calls Tryz.prog 155 #[.slice (some a) b.length cc] w fun e w'=>e=.returned (.tuple #[.int .u64 0,.int .i64 0,.int .i64 12])/\Below w.heap.size w w':=by
 have hl10:(b.take 10).length=L:=by rw [lK];omega
 have hI:=bZ (some a) cc (b.take 10) (by rw [hl10];have:=bF (n:=L) hr (by omega);rwa [show b.take L=b.take 10 by rw [hL,Nat.min_comm,<-List.take_take,List.take_length]] at this) hB (by omega)
 have e:iw (b.take 10)=j:=by unfold iw;rw [hi]
 rw [e,hl10] at hI;have hjl:=(mQ _ _ _ hi).2;rw [hl10] at hjl
 have hmin:min (b.length:Int) 10=(L:Int):=by omega
 have hmif:(if (10:Int)<(b.length:Int) then (10:Int) else (b.length:Int))=(L:Int):=by split <;> omega
 have hjb:j<b.length:=by omega
 have hc:w.cell? (a.add j)=some (.int .u8 0):=by
  obtain ⟨a',e',_,h2⟩:=hr.2 (by omega)
  cases e'
  rw [h2 j (.int .u8 ((b.getD j 0).toNat:Int)) (by unfold bl;rw [List.getElem?_map,gE hjb,List.getD_eq_getElem?_getD,gE hjb];rfl),h0];rfl
 have b0:L<=cc:=by omega
 have b1:L<=b.length:=by omega
 have j0:(0:Int)<=(j:Int):=by omega
 have j1:(j:Int)<(L:Int):=by omega
 have j2:¬ (j:Int)<0:=by omega
 have j3:(0:Int)<(j:Int):=by omega
 have hcw:∀ W,Below w.heap.size w W->W.cell? (a.add j)=some (.int .u8 0):=fun W hW=>(hW.cell (World.block_lt_of_cell? w _ hc)).trans hc;clear hi e hl10 hL hjb h0;refine (callsIn_wide (n:=3)).1 ?_;refine callsIn_of_wp_marks Tryz.func155 rfl trivial ?_ rfl;simp only [Tryz.ntmps155,List.size_toArray,List.length_cons,List.length_nil,Nat.reduceAdd,Nat.reduceSub,Array.replicate_succ,Array.replicate_zero,List.push_toArray,List.append_toArray,List.nil_append,List.cons_append];by_cases h9:j=9
 ·subst h9
  gi_wp2_with (refine ⟨trivial,?_⟩;gi_at_call 171;refine (callsIn_wide.2 hI).mono ?_;rintro e w1 ⟨rfl,hb⟩;have hcx:=hcw w1 hb;have hcz:w1.cell? ⟨a.block,a.off+9,none⟩=some (.int .u8 0):=(by simpa [Addr.add] using hcx))
  refine ⟨_,results_tmp3 rfl _ _ _,?_⟩;exact ⟨rfl,hb⟩
 ·have d9:¬ (j:Int)=9:=by omega
  gi_wp2_with (refine ⟨trivial,?_⟩;gi_at_call 171;refine (callsIn_wide.2 hI).mono ?_;rintro e w1 ⟨rfl,hb⟩;have hcx:=hcw w1 hb)
  refine ⟨_,results_tmp3 rfl _ _ _,?_⟩;exact ⟨rfl,hb⟩
theorem AL {B:Nat} (a:Addr) (cc:Nat) (b:List UInt8) (w:World) (hB:B<=w.heap.size) (hr:Reads w B 1 (some a) b.length (bl b)) (hcap:b.length<=cc) (hl:10<=b.length) (hi:low (b.take 10) 0=some 9) {y:Nat} (hy:(b.getD 9 0).toNat=y) (h1:1<y) :
 Calls Tryz.prog 155 #[.slice (some a) b.length cc] w fun e w'=>e=.returned (.tuple #[.int .u64 0,.int .i64 0,.int .i64 11])/\Below w.heap.size w w':=by
 have hl10:(b.take 10).length=10:=by rw [lK];omega
 have hI:=bZ (some a) cc (b.take 10) (by rw [hl10];exact bF hr hl) hB (by omega)
 have e:iw (b.take 10)=9:=by unfold iw;rw [hi];rfl
 rw [e,hl10] at hI
 have hmin:min (b.length:Int) 10=10:=by omega
 have hmif:(if (10:Int)<(b.length:Int) then (10:Int) else (b.length:Int))=10:=by split <;> omega
 have hc:w.cell? (a.add 9)=some (.int .u8 (y:Nat)):=by
  obtain ⟨a',e',_,h2⟩:=hr.2 (by omega)
  cases e'
  rw [h2 9 (.int .u8 ((b.getD 9 0).toNat:Int)) (by unfold bl;rw [List.getElem?_map,gE (by omega),List.getD_eq_getElem?_getD,gE (by omega)];rfl),hy]
 have b0:10<=cc:=by omega
 have y1:(1:Int)<(y:Int):=by omega
 have hcw:∀ W,Below w.heap.size w W->W.cell? (a.add 9)=some (.int .u8 (y:Nat)):=fun W hW=>(hW.cell (World.block_lt_of_cell? w _ hc)).trans hc;clear hi e hl10 hy;refine (callsIn_wide (n:=3)).1 ?_;refine callsIn_of_wp_marks Tryz.func155 rfl trivial ?_ rfl;simp only [Tryz.ntmps155,List.size_toArray,List.length_cons,List.length_nil,Nat.reduceAdd,Nat.reduceSub,Array.replicate_succ,Array.replicate_zero,List.push_toArray,List.append_toArray,List.nil_append,List.cons_append]
 gi_wp2_with (refine ⟨trivial,?_⟩;gi_at_call 171;refine (callsIn_wide.2 hI).mono ?_;rintro e w1 ⟨rfl,hb⟩;have hcx:=hcw w1 hb;have hcz:w1.cell? ⟨a.block,a.off+9,none⟩=some (.int .u8 (y:Nat)):=(by simpa [Addr.add] using hcx))
 refine ⟨_,results_tmp3 rfl _ _ _,?_⟩;exact ⟨rfl,hb⟩
attribute [local go_sem] Oper.semAt_some
theorem AM (n c:Nat) (hn:n<144115188075855872) (hc:c<256):bits .or .u64 (IntKind.u64.wrap ((n:Int)*128)) (IntKind.u64.wrap (bits .and .u8 (c:Int) 127))=((n*128+c % 128:Nat):Int):=by
 have e1:bits .and .u8 (c:Int) 127=((c % 128:Nat):Int):=by
  have h:=(bits_nat .u8 8 (by decide) (fun n h0 h1=>by rw [IntKind.wrap_u8];omega) c 127 hc (by decide)).1;have h2:=Nat.and_two_pow_sub_one_eq_mod c 7;rw [show (2:Nat) ^ 7-1=127 from rfl,show (2:Nat) ^ 7=128 from rfl] at h2;rw [h2] at h;exact h
 have e2:IntKind.u64.wrap ((n:Int)*128)=((n*128:Nat):Int):=by rw [IntKind.wrap_u64];omega
 have e3:IntKind.u64.wrap ((c % 128:Nat):Int)=((c % 128:Nat):Int):=by rw [IntKind.wrap_u64];omega
 rw [e1,e3,e2];have h:=bits_or_u64_nat (n*128) (c % 128) (by omega) (by omega);have h2:=Nat.two_pow_add_eq_or_of_lt (i:=7) (b:=c % 128) (by omega) n;rw [h,show n*128=2 ^ 7*n by omega,<-h2]
theorem step_mod (n c m:Nat) (hm:m=n % 18446744073709551616) (hc:c<256):bits .or .u64 (IntKind.u64.wrap ((m:Int)*128)) (IntKind.u64.wrap (bits .and .u8 (c:Int) 127))=(((n*128+c % 128) % 18446744073709551616:Nat):Int):=by
 have h:=AM (m % 144115188075855872) c (by omega) hc
 have e:IntKind.u64.wrap ((m:Int)*128)=IntKind.u64.wrap (((m % 144115188075855872:Nat):Int)*128):=by rw [IntKind.wrap_u64,IntKind.wrap_u64];omega
 rw [e,h];congr 1;omega
def tw (pre:List (Nat × UInt8)):Nat:=pA pre % 18446744073709551616
theorem mT (pre:List (Nat × UInt8)) (x:Nat × UInt8):bits .or .u64 (IntKind.u64.wrap ((tw pre:Int)*128)) (IntKind.u64.wrap (bits .and .u8 (x.2.toNat:Int) 127))=((tw (pre++[x]):Nat):Int):=by
 unfold tw;rw [rY];exact step_mod (pA pre) x.2.toNat _ rfl x.2.toNat_lt
theorem pC (c:UInt8):∀ (l:List UInt8),cZ (l++[c])=cZ l+128 ^ l.length*(c.toNat % 128)
 | []=>by simp [cZ]
 | d::l=>by
  have h:=pC c l;rw [List.cons_append,cZ,h,cZ,List.length_cons,Nat.pow_succ];generalize 128 ^ l.length=p;rw [Nat.add_mul,Nat.mul_right_comm,Nat.mul_comm p 128,Nat.mul_assoc 128,Nat.mul_comm 128 (p*_)];omega
theorem r5 (b:List UInt8) (h:b.length<=9):cZ b<18446744073709551616:=by
 have h1:=pB b;have h2:128 ^ b.length<=128 ^ 9:=Nat.pow_le_pow_right (by decide) h
 have:(128:Nat) ^ 9=9223372036854775808:=by decide
 omega
theorem vn (b:List UInt8) (h:9<b.length) (h1:(b.getD 9 0).toNat<=1):cZ (b.take 10)<18446744073709551616:=by
 have e:b.take 10=b.take 9++[b.getD 9 0]:=by
  rw [List.take_add_one (i:=9),List.getD_eq_getElem?_getD,gE h];rfl
 have l9:(b.take 9).length=9:=by rw [lK];omega
 rw [e,pC,l9];have h3:=pB (b.take 9);rw [l9] at h3
 have:(128:Nat) ^ 9=9223372036854775808:=by decide
 rw [this] at h3 ⊢;omega
theorem EJ {B:Nat} (a:Addr) (cc L j y:Nat) (b:List UInt8) (w:World) (hB:B<=w.heap.size) (hr:Reads w B 1 (some a) b.length (bl b)) (hcap:b.length<=cc) (hL:L=min b.length 10) (hi:low (b.take 10) 0=some j) (hj:0<j) (hj9:j≠9) (hy:(b.getD j 0).toNat=y) (h0:y≠0) :
 Calls Tryz.prog 155 #[.slice (some a) b.length cc] w fun e w'=>e=.returned (.tuple #[.int .u64 (cZ (b.take (j+1)):Nat),.int .i64 ((j:Int)+1),.int .i64 0])/\Below w.heap.size w w':=by
 have hl10:(b.take 10).length=L:=by rw [lK];omega
 have hI:=bZ (some a) cc (b.take 10) (by rw [hl10];have:=bF (n:=L) hr (by omega);rwa [show b.take L=b.take 10 by rw [hL,Nat.min_comm,<-List.take_take,List.take_length]] at this) hB (by omega)
 have e:iw (b.take 10)=j:=by unfold iw;rw [hi]
 rw [e,hl10] at hI;have hjl:=(mQ _ _ _ hi).2;rw [hl10] at hjl
 have hmin:min (b.length:Int) 10=(L:Int):=by omega
 have hmif:(if (10:Int)<(b.length:Int) then (10:Int) else (b.length:Int))=(L:Int):=by split <;> omega
 have hjb:j<b.length:=by omega
 have hc:w.cell? (a.add j)=some (.int .u8 (y:Nat)):=by rw [<-hy];exact dA hr j hjb
 have haw:=mK hr (by omega);have hbn:=r5 (b.take (j+1)) (by rw [lK];omega)
 have b0:L<=cc:=by omega
 have b1:L<=b.length:=by omega
 have j0:(0:Int)<=(j:Int):=by omega
 have j1:(j:Int)<(L:Int):=by omega
 have j2:¬ (j:Int)<0:=by omega
 have j3:(0:Int)<(j:Int):=by omega
 have j4:j+1<=cc:=by omega
 have y0:¬ (y:Int)=0:=by omega
 have hcw:∀ W,Below w.heap.size w W->W.cell? (a.add j)=some (.int .u8 (y:Nat)):=fun W hW=>(hW.cell (World.block_lt_of_cell? w _ hc)).trans hc
 have d9:¬ (j:Int)=9:=by omega
 clear hi e hl10 hL hy h0;refine (callsIn_wide (n:=3)).1 ?_;refine callsIn_of_wp_marks Tryz.func155 rfl trivial ?_ rfl;simp only [Tryz.ntmps155,List.size_toArray,List.length_cons,List.length_nil,Nat.reduceAdd,Nat.reduceSub,Array.replicate_succ,Array.replicate_zero,List.push_toArray,List.append_toArray,List.nil_append,List.cons_append]
 gi_wp2_with (first
  | (refine ⟨trivial,?_⟩;gi_at_call 173;refine (callsIn_wide.2 (tt _ _ _ _)).mono ?_;rintro e w2 ⟨rfl,rfl⟩)
  | (refine ⟨trivial,?_⟩;gi_at_call 171;refine (callsIn_wide.2 hI).mono ?_;rintro e w1 ⟨rfl,hb⟩;have hcx:=hcw w1 hb))
 have hlen:(b.take (j+1)).length=(j+1):=by rw [lK];omega
 have hW2:Below w.heap.size w ((w1.alloc (.cells #[.int .u64 0] 58)).alloc (.cells #[.slice (some a) (j+1) cc] 23)):=(hb.alloc hb.size _).alloc (by have:=hb.size;simp;omega) _
 have hcs:∀ i,i<(b.take (j+1)).length->((w1.alloc (.cells #[.int .u64 0] 58)).alloc (.cells #[.slice (some a) (j+1) cc] 23)).cell? (a.add i)=some (.int .u8 (((b.take (j+1)).getD i 0).toNat:Int)):=fun i hi=>by
  obtain ⟨a',e',_,h2⟩:=hr.2 (by omega)
  cases e'
  have hib:i<b.length:=by omega
  have:=h2 i (.int .u8 ((b.getD i 0).toNat:Int)) (by unfold bl;rw [List.getElem?_map,gE hib,List.getD_eq_getElem?_getD,gE hib];rfl);rw [hW2.cell (p:=a.add i) (World.block_lt_of_cell? w _ this),this];congr 3;rw [List.getD_eq_getElem?_getD,List.getD_eq_getElem?_getD,List.getElem?_take,if_pos (by omega)]
 have hst:=kP Fence.wide 2 trivial rfl (by omega) (w1.heap.size+1) w1.heap.size cc a (b.take (j+1)) (by omega) _ (by simp) (by simp;omega) (lT haw hb.size) (by
  have:=aa.new (w1.alloc (.cells #[.int .u64 0] 58)) 23 #[.slice (some a) (j+1) cc];rw [hlen];have h:=this.cell 0
  simp) hcs
 have hKb:∀ (W:World) (l:Nat) (o o':Obj),w1.heap.size+1+1<=l->W.heap[l]?=some o->o.isCells=false->o.isWalk=false->lI w1.heap.size (w1.heap.size+1) W (W.putObj l o'):=fun W l o o' hl ho h1 h2 =>
  ⟨Below.mono (belowK_b (w:=w1) (nR _) W l o o' (by omega) ho h1 h2) (nR _),by
   have hlt:l<W.heap.size:=(aS.1 ho).1
   simp [World.putObj,World.cell?,Array.getElem?_setIfInBounds,show l≠w1.heap.size+1 by omega]⟩
 have hAcc:=mS (b.take (j+1));rw [hlen] at hAcc
 refine' wpIn_rangeFunc_ownG rfl (by omega) (gf:=180) (lb:=#[.pointer (some ⟨w1.heap.size+1,0,none⟩)]) rfl trivial (enters_of Tryz.func180 (by kernel_rfl) rfl) hst tu ?hkb (bR _ _) (fun _=>rfl)
  (fun pre W=>(W.cell? ⟨w1.heap.size,0,none⟩=some (.int .u64 (tw pre:Nat))/\W.frozen? ⟨w1.heap.size,0,none⟩=false)/\Below w.heap.size w W)
  (fun _ _ _=>False) ?hi ?hix ?h0 _ ?assign ?body ?done ?stop
 case hkb=>exact fun W l o o' hl=>hKb W l o o' (by simpa using hl)
 case hi=>exact OwnFrom.and (Own.from (fun s A B row hs hg hr=>⟨cell_kept hs.1 hg hr,(frozen_kept hs.1 hg hr).trans hs.2⟩) _) (ownFrom_below (nR _) (by have:=hb.size;simp;omega))
 case hix=>exact fun _ _ _ _ _ hs _ _=>hs
 case h0 =>
  have bS:=Boxed.new w1 58 (.int .u64 0);exact ⟨⟨(bS.alloc _).cell,(bS.alloc _).frozen⟩,hW2⟩
 case assign =>
  intro l x W K hK
  gi_wp2
  exact hK
 case body =>
  rintro l pre x W ⟨⟨hca,hfa⟩,hBa⟩ hp;have hv:=mT pre x
  gi_wp2
  exact ⟨(KeepsOthers.setCell _ _ _).from _,⟨(bR w1.heap.size W).setCell (p:=⟨w1.heap.size,0,none⟩) (nR _) _,World.cell?_setCell_far _ _ _ _ (by simp)⟩,⟨by exact World.cell?_setCell_same' _ _ _ (by rw [hca];rfl),by rw [World.frozen?_setCell];exact hfa⟩,hBa.setCell (p:=⟨w1.heap.size,0,none⟩) hb.size _⟩
 case done =>
  rintro D ys W hD rfl ⟨⟨hca,_⟩,hBa⟩ hK
  gi_wp2
  refine ⟨by simp,.inl ⟨_,_,rfl,run_takeDeferred hK,?_⟩⟩;refine ⟨_,results_tmp3 rfl _ _ _,?_,hBa.trans (belowK_b (w:=w) (nR _) W D _ _ (by have:=hb.size;simp at hD;omega) hK rfl rfl)⟩;rw [<-hAcc,<-show tw _=pA _ from Nat.mod_eq_of_lt (by rw [hAcc];exact hbn)];rfl
 case stop =>
  rintro D c pre W _ _ h _;exact h.elim
theorem CM {B:Nat} (a:Addr) (cc L:Nat) (b:List UInt8) (w:World) (hB:B<=w.heap.size) (hr:Reads w B 1 (some a) b.length (bl b)) (hcap:b.length<=cc) (hL:L=min b.length 10) (hi:low (b.take 10) 0=some 0) :
 Calls Tryz.prog 155 #[.slice (some a) b.length cc] w fun e w'=>e=.returned (.tuple #[.int .u64 (cZ (b.take 1):Nat),.int .i64 1,.int .i64 0])/\Below w.heap.size w w':=by
 have hl10:(b.take 10).length=L:=by rw [lK];omega
 have hI:=bZ (some a) cc (b.take 10) (by rw [hl10];have:=bF (n:=L) hr (by omega);rwa [show b.take L=b.take 10 by rw [hL,Nat.min_comm,<-List.take_take,List.take_length]] at this) hB (by omega)
 have e:iw (b.take 10)=0:=by unfold iw;rw [hi];rfl
 rw [e,hl10] at hI;have hjl:=(mQ _ _ _ hi).2;rw [hl10] at hjl
 have hmin:min (b.length:Int) 10=(L:Int):=by omega
 have hmif:(if (10:Int)<(b.length:Int) then (10:Int) else (b.length:Int))=(L:Int):=by split <;> omega
 have hjb:0<b.length:=by omega
 have haw:=mK hr (by omega);have hbn:=r5 (b.take 1) (by rw [lK];omega)
 have b0:L<=cc:=by omega
 have b1:L<=b.length:=by omega
 have j1:(0:Int)<(L:Int):=by omega
 have j4:1<=cc:=by omega
 clear hi e hl10 hL;refine (callsIn_wide (n:=3)).1 ?_;refine callsIn_of_wp_marks Tryz.func155 rfl trivial ?_ rfl;simp only [Tryz.ntmps155,List.size_toArray,List.length_cons,List.length_nil,Nat.reduceAdd,Nat.reduceSub,Array.replicate_succ,Array.replicate_zero,List.push_toArray,List.append_toArray,List.nil_append,List.cons_append]
 gi_wp2_with (first
  | (refine ⟨trivial,?_⟩;gi_at_call 173;refine (callsIn_wide.2 (tt _ _ _ _)).mono ?_;rintro e w2 ⟨rfl,rfl⟩)
  | (refine ⟨trivial,?_⟩;gi_at_call 171;refine (callsIn_wide.2 hI).mono ?_;rintro e w1 ⟨rfl,hb⟩))
 have hlen:(b.take 1).length=1:=by rw [lK];omega
 have hW2:Below w.heap.size w ((w1.alloc (.cells #[.int .u64 0] 58)).alloc (.cells #[.slice (some a) 1 cc] 23)):=(hb.alloc hb.size _).alloc (by have:=hb.size;simp;omega) _
 have hcs:∀ i,i<(b.take 1).length->((w1.alloc (.cells #[.int .u64 0] 58)).alloc (.cells #[.slice (some a) 1 cc] 23)).cell? (a.add i)=some (.int .u8 (((b.take 1).getD i 0).toNat:Int)):=fun i hi=>by
  obtain ⟨a',e',_,h2⟩:=hr.2 (by omega)
  cases e'
  have hib:i<b.length:=by omega
  have:=h2 i (.int .u8 ((b.getD i 0).toNat:Int)) (by unfold bl;rw [List.getElem?_map,gE hib,List.getD_eq_getElem?_getD,gE hib];rfl);rw [hW2.cell (p:=a.add i) (World.block_lt_of_cell? w _ this),this];congr 3;rw [List.getD_eq_getElem?_getD,List.getD_eq_getElem?_getD,List.getElem?_take,if_pos (by omega)]
 have hst:=kP Fence.wide 2 trivial rfl (by omega) (w1.heap.size+1) w1.heap.size cc a (b.take 1) (by omega) _ (by simp) (by simp;omega) (lT haw hb.size) (by
  have:=aa.new (w1.alloc (.cells #[.int .u64 0] 58)) 23 #[.slice (some a) 1 cc];rw [hlen];have h:=this.cell 0
  simp) hcs
 have hKb:∀ (W:World) (l:Nat) (o o':Obj),w1.heap.size+1+1<=l->W.heap[l]?=some o->o.isCells=false->o.isWalk=false->lI w1.heap.size (w1.heap.size+1) W (W.putObj l o'):=fun W l o o' hl ho h1 h2 =>
  ⟨Below.mono (belowK_b (w:=w1) (nR _) W l o o' (by omega) ho h1 h2) (nR _),by
   have hlt:l<W.heap.size:=(aS.1 ho).1
   simp [World.putObj,World.cell?,Array.getElem?_setIfInBounds,show l≠w1.heap.size+1 by omega]⟩
 have hAcc:=mS (b.take 1);rw [hlen] at hAcc
 refine' wpIn_rangeFunc_ownG rfl (by omega) (gf:=180) (lb:=#[.pointer (some ⟨w1.heap.size+1,0,none⟩)]) rfl trivial (enters_of Tryz.func180 (by kernel_rfl) rfl) hst tu ?hkb (bR _ _) (fun _=>rfl)
  (fun pre W=>(W.cell? ⟨w1.heap.size,0,none⟩=some (.int .u64 (tw pre:Nat))/\W.frozen? ⟨w1.heap.size,0,none⟩=false)/\Below w.heap.size w W)
  (fun _ _ _=>False) ?hi ?hix ?h0 _ ?assign ?body ?done ?stop
 case hkb=>exact fun W l o o' hl=>hKb W l o o' (by simpa using hl)
 case hi=>exact OwnFrom.and (Own.from (fun s A B row hs hg hr=>⟨cell_kept hs.1 hg hr,(frozen_kept hs.1 hg hr).trans hs.2⟩) _) (ownFrom_below (nR _) (by have:=hb.size;simp;omega))
 case hix=>exact fun _ _ _ _ _ hs _ _=>hs
 case h0 =>
  have bS:=Boxed.new w1 58 (.int .u64 0);exact ⟨⟨(bS.alloc _).cell,(bS.alloc _).frozen⟩,hW2⟩
 case assign =>
  intro l x W K hK
  gi_wp2
  exact hK
 case body =>
  rintro l pre x W ⟨⟨hca,hfa⟩,hBa⟩ hp;have hv:=mT pre x
  gi_wp2
  exact ⟨(KeepsOthers.setCell _ _ _).from _,⟨(bR w1.heap.size W).setCell (p:=⟨w1.heap.size,0,none⟩) (nR _) _,World.cell?_setCell_far _ _ _ _ (by simp)⟩,⟨by exact World.cell?_setCell_same' _ _ _ (by rw [hca];rfl),by rw [World.frozen?_setCell];exact hfa⟩,hBa.setCell (p:=⟨w1.heap.size,0,none⟩) hb.size _⟩
 case done =>
  rintro D ys W hD rfl ⟨⟨hca,_⟩,hBa⟩ hK
  gi_wp2
  refine ⟨by simp,.inl ⟨_,_,rfl,run_takeDeferred hK,?_⟩⟩;refine ⟨_,results_tmp3 rfl _ _ _,?_,hBa.trans (belowK_b (w:=w) (nR _) W D _ _ (by have:=hb.size;simp at hD;omega) hK rfl rfl)⟩;rw [<-hAcc,<-show tw _=pA _ from Nat.mod_eq_of_lt (by rw [hAcc];exact hbn)];rfl
 case stop =>
  rintro D c pre W _ _ h _;exact h.elim
theorem CN {B:Nat} (a:Addr) (cc:Nat) (b:List UInt8) (w:World) (hB:B<=w.heap.size) (hr:Reads w B 1 (some a) b.length (bl b)) (hcap:b.length<=cc) (hl:10<=b.length) (hi:low (b.take 10) 0=some 9) (hy:(b.getD 9 0).toNat=1) :
 Calls Tryz.prog 155 #[.slice (some a) b.length cc] w fun e w'=>e=.returned (.tuple #[.int .u64 (cZ (b.take 10):Nat),.int .i64 10,.int .i64 0])/\Below w.heap.size w w':=by
 have hl10:(b.take 10).length=10:=by rw [lK];omega
 have hI:=bZ (some a) cc (b.take 10) (by rw [hl10];exact bF hr hl) hB (by omega)
 have e:iw (b.take 10)=9:=by unfold iw;rw [hi];rfl
 rw [e,hl10] at hI
 have hmin:min (b.length:Int) 10=10:=by omega
 have hmif:(if (10:Int)<(b.length:Int) then (10:Int) else (b.length:Int))=10:=by split <;> omega
 have hc:w.cell? (a.add 9)=some (.int .u8 1):=by have:=dA hr 9 (by omega);rw [hy] at this;exact this
 have haw:=mK hr (by omega);have hbn:=vn b (by omega) (by omega)
 have b0:10<=cc:=by omega
 have hcw:∀ W,Below w.heap.size w W->W.cell? (a.add 9)=some (.int .u8 1):=fun W hW=>(hW.cell (World.block_lt_of_cell? w _ hc)).trans hc;clear hi e hl10 hy;refine (callsIn_wide (n:=3)).1 ?_;refine callsIn_of_wp_marks Tryz.func155 rfl trivial ?_ rfl;simp only [Tryz.ntmps155,List.size_toArray,List.length_cons,List.length_nil,Nat.reduceAdd,Nat.reduceSub,Array.replicate_succ,Array.replicate_zero,List.push_toArray,List.append_toArray,List.nil_append,List.cons_append]
 gi_wp2_with (first
  | (refine ⟨trivial,?_⟩;gi_at_call 173;refine (callsIn_wide.2 (tt _ _ _ _)).mono ?_;rintro e w2 ⟨rfl,rfl⟩)
  | (refine ⟨trivial,?_⟩;gi_at_call 171;refine (callsIn_wide.2 hI).mono ?_;rintro e w1 ⟨rfl,hb⟩;have hcx:=hcw w1 hb;have hcz:w1.cell? ⟨a.block,a.off+9,none⟩=some (.int .u8 1):=(by simpa [Addr.add] using hcx)))
 have hlen:(b.take 10).length=10:=by rw [lK];omega
 have hW2:Below w.heap.size w ((w1.alloc (.cells #[.int .u64 0] 58)).alloc (.cells #[.slice (some a) 10 cc] 23)):=(hb.alloc hb.size _).alloc (by have:=hb.size;simp;omega) _
 have hcs:∀ i,i<(b.take 10).length->((w1.alloc (.cells #[.int .u64 0] 58)).alloc (.cells #[.slice (some a) 10 cc] 23)).cell? (a.add i)=some (.int .u8 (((b.take 10).getD i 0).toNat:Int)):=fun i hi=>by
  obtain ⟨a',e',_,h2⟩:=hr.2 (by omega)
  cases e'
  have hib:i<b.length:=by omega
  have:=h2 i (.int .u8 ((b.getD i 0).toNat:Int)) (by unfold bl;rw [List.getElem?_map,gE hib,List.getD_eq_getElem?_getD,gE hib];rfl);rw [hW2.cell (p:=a.add i) (World.block_lt_of_cell? w _ this),this];congr 3;rw [List.getD_eq_getElem?_getD,List.getD_eq_getElem?_getD,List.getElem?_take,if_pos (by omega)]
 have hst:=kP Fence.wide 2 trivial rfl (by omega) (w1.heap.size+1) w1.heap.size cc a (b.take 10) (by omega) _ (by simp) (by simp;omega) (lT haw hb.size) (by
  have:=aa.new (w1.alloc (.cells #[.int .u64 0] 58)) 23 #[.slice (some a) 10 cc];rw [hlen];have h:=this.cell 0
  simp) hcs
 have hKb:∀ (W:World) (l:Nat) (o o':Obj),w1.heap.size+1+1<=l->W.heap[l]?=some o->o.isCells=false->o.isWalk=false->lI w1.heap.size (w1.heap.size+1) W (W.putObj l o'):=fun W l o o' hl ho h1 h2 =>
  ⟨Below.mono (belowK_b (w:=w1) (nR _) W l o o' (by omega) ho h1 h2) (nR _),by
   have hlt:l<W.heap.size:=(aS.1 ho).1
   simp [World.putObj,World.cell?,Array.getElem?_setIfInBounds,show l≠w1.heap.size+1 by omega]⟩
 have hAcc:=mS (b.take 10);rw [hlen] at hAcc
 refine' wpIn_rangeFunc_ownG rfl (by omega) (gf:=180) (lb:=#[.pointer (some ⟨w1.heap.size+1,0,none⟩)]) rfl trivial (enters_of Tryz.func180 (by kernel_rfl) rfl) hst tu ?hkb (bR _ _) (fun _=>rfl)
  (fun pre W=>(W.cell? ⟨w1.heap.size,0,none⟩=some (.int .u64 (tw pre:Nat))/\W.frozen? ⟨w1.heap.size,0,none⟩=false)/\Below w.heap.size w W)
  (fun _ _ _=>False) ?hi ?hix ?h0 _ ?assign ?body ?done ?stop
 case hkb=>exact fun W l o o' hl=>hKb W l o o' (by simpa using hl)
 case hi=>exact OwnFrom.and (Own.from (fun s A B row hs hg hr=>⟨cell_kept hs.1 hg hr,(frozen_kept hs.1 hg hr).trans hs.2⟩) _) (ownFrom_below (nR _) (by have:=hb.size;simp;omega))
 case hix=>exact fun _ _ _ _ _ hs _ _=>hs
 case h0 =>
  have bS:=Boxed.new w1 58 (.int .u64 0);exact ⟨⟨(bS.alloc _).cell,(bS.alloc _).frozen⟩,hW2⟩
 case assign =>
  intro l x W K hK
  gi_wp2
  exact hK
 case body =>
  rintro l pre x W ⟨⟨hca,hfa⟩,hBa⟩ hp;have hv:=mT pre x
  gi_wp2
  exact ⟨(KeepsOthers.setCell _ _ _).from _,⟨(bR w1.heap.size W).setCell (p:=⟨w1.heap.size,0,none⟩) (nR _) _,World.cell?_setCell_far _ _ _ _ (by simp)⟩,⟨by exact World.cell?_setCell_same' _ _ _ (by rw [hca];rfl),by rw [World.frozen?_setCell];exact hfa⟩,hBa.setCell (p:=⟨w1.heap.size,0,none⟩) hb.size _⟩
 case done =>
  rintro D ys W hD rfl ⟨⟨hca,_⟩,hBa⟩ hK
  gi_wp2
  refine ⟨by simp,.inl ⟨_,_,rfl,run_takeDeferred hK,?_⟩⟩;refine ⟨_,results_tmp3 rfl _ _ _,?_,hBa.trans (belowK_b (w:=w) (nR _) W D _ _ (by have:=hb.size;simp at hD;omega) hK rfl rfl)⟩;rw [<-hAcc,<-show tw _=pA _ from Nat.mod_eq_of_lt (by rw [hAcc];exact hbn)];rfl
 case stop =>
  rintro D c pre W _ _ h _;exact h.elim
theorem lJ:Gc:=by
 intro B A cc b w hB hr hl hcap;rw [AI];unfold xA
 cases hi:low (b.take 10) 0 with
 | none =>
  by_cases h:b.length<10
  ·simp only [if_pos h];rw [List.take_of_length_le (by omega)] at hi;exact xB A cc b w hB hr hcap h hi
  ·simp only [if_neg h];exact AJ A cc b w hB hr hcap (by omega) hi
 | some j =>
  have hj:=(mQ _ _ _ hi).2;rw [lK] at hj;obtain ⟨a,rfl,_,_⟩:=hr.2 (by omega);simp only [Nat.sub_zero];by_cases h1:j=9/\1<(b.getD j 0).toNat
  ·simp only [if_pos h1];obtain ⟨rfl,h1⟩:=h1;exact AL a cc b w hB hr hcap (by omega) hi rfl h1
  simp only [if_neg h1];by_cases h2:0<j/\(b.getD j 0).toNat=0
  ·simp only [if_pos h2];exact AK a cc _ j b w hB hr hcap rfl hi h2.1 h2.2
  simp only [if_neg h2];by_cases h3:j=0
  ·subst h3;exact CM a cc _ b w hB hr hcap rfl hi
  by_cases h4:j=9
  ·subst h4;exact CN a cc b w hB hr hcap (by omega) hi (by omega)
  exact EJ a cc _ j _ b w hB hr hcap rfl hi (by omega) h4 rfl (by omega)
theorem vo (A:Option Addr) (n c:Nat) (w:World) (h8:8<n) :
 Calls Tryz.prog 77 #[.slice A n c] w fun e w'=>e=.returned (.int .u64 0)/\w=w':=by
 have b8:decide (8<(n:Int))=true:=dT (by omega);have b9:decide (8<n)=true:=dT h8;go_enter Tryz.func77,Tryz.ntmps77;go_wp2;go_ret;exact ⟨rfl,rfl⟩
def AO (b:List UInt8):Nat:=if b.length<=8 then aC b else 0
theorem EK (b:List UInt8):AO b<18446744073709551616:=by
 unfold AO
 split
 ·rename_i h;exact lT (bW b) (nT (Nat.pow_le_pow_right (by decide) h) (by decide))
 ·decide
theorem pD {B:Nat} (A:Option Addr) (c:Nat) (b:List UInt8) (w:World) (hr:Reads w B 1 A b.length (bl b)) :
 Calls Tryz.prog 77 #[.slice A b.length c] w fun e w'=>e=.returned (.int .u64 (AO b))/\w=w':=by
 unfold AO;by_cases h:b.length<=8
 ·rw [if_pos h];exact dB A c b w hr h
 ·rw [if_neg h];exact vo A b.length c w (by omega)
theorem tz {W:World} {base n size:Nat} {e:TypeId} {A:Option Addr} {c:Nat} {xs:List Value} (h:W.ownsRow base e size (.slice A n c) n xs):∀ ad,A=some ad->ad.block<W.heap.size:=by
 rintro ad rfl
 rcases h.2 with ⟨h0,_⟩ | ⟨g,cap,cur,e1,e2,e3,_⟩
 ·cases h0
 ·simp only [Value.slice.injEq,Option.some.injEq] at e1;rw [e1.1];exact (aS.1 e3).1
theorem oC {W W':World} {base n size:Nat} {e:TypeId} {A:Option Addr} {c:Nat} {xs:List Value} {X:Nat->Prop} (h:W.ownsRow base e size (.slice A n c) n xs) (hf:Fr X W W') (hX:∀ ad,A=some ad->¬ X ad.block):W'.ownsRow base e size (.slice A n c) n xs :=
 fB h fun ad e=>hf.block ad.block (tz h ad e) (hX ad e)
theorem vr {B:Nat} (A:Option Addr) (c:Nat) (w:World) (hB:B<=w.heap.size) (hr:Reads w B 1 A ([]:List UInt8).length (bl [])) (hc:([]:List UInt8).length<=c) (hl:([]:List UInt8).length<=1000) :
 Calls Tryz.prog 121 #[.slice A ([]:List UInt8).length c] w fun e w'=>kw (cQ []) w.heap.size e w'/\Below w.heap.size w w':=by
 obtain ⟨w0,hw0⟩:∃ w0,w0=w.alloc (.cells #[.slice none 0 0,.int .i64 0,.slice none 0 0,.int .u32 0,.int .u32 0] 117):=⟨_,rfl⟩
 have hb0:Below w.heap.size w w0:=by rw [hw0];exact (bR _ w).alloc (nR _) _
 have hZ0:aa w0 w.heap.size 117 #[.slice none 0 0,.int .i64 0,.slice none 0 0,.int .u32 0,.int .u32 0]:=by rw [hw0];exact aa.new _ _ _
 have hCu:=ee A ([]:List UInt8).length c w0
 obtain ⟨w1,hw1⟩:∃ w1,w1=w0.alloc (.cells #[.slice A ([]:List UInt8).length c] 23):=⟨_,rfl⟩
 have hb1:Below w0.heap.size w0 w1:=by rw [hw1];exact (bR _ w0).alloc (nR _) _
 have hK1:aa w1 w0.heap.size 23 #[.slice A ([]:List UInt8).length c]:=by rw [hw1];exact aa.new _ _ _
 rw [<-hw1] at hCu
 obtain ⟨g,HG⟩:∃ g,Hid (w0.heap.size=g):=⟨_,lH rfl⟩
 rw [HG.out] at hCu hK1;have hb01:Below w.heap.size w w1:=hb0.trans (hb1.mono hb0.size)
 have hg0:w.heap.size<=g:=by have:=HG.out;have:=hb0.size;omega
 have hBg:B<=g:=nT hB hg0;have hC1:=bC hK1 (hr.below (hb01.mono hB)) hc hl 1 (by omega) hBg;unfold px at hCu;have HW0:=lH hw0;clear hw0 hw1;go_enter Tryz.func121,Tryz.ntmps121
 go_wp2_with (first
  | (go_at_call 170;refine hC1.mono ?_;rintro e w3 ⟨kb,r0,A1,A2,c2,HP1,rfl,hk3,hc2,hr2,hK3,hb3,hf3⟩;have hn0:((kb.length:Int)==0)=true:=(by rw [HP1.out.1];rfl);have hb1g:Below w0.heap.size w0 w3:=hb1.trans (hb3.mono (by rw [HG.out];exact nR _));have R9:=hZ0.below hb1g hZ0.lt)
  | (rw [<-HW0.out];go_at_call 154;refine hCu.mono ?_;rintro e w2 ⟨rfl,h2⟩;have h2:=h2.symm;subst h2)
  | (refine wpList_store_row rfl 117 (.tmp 2) (.tmp 20) rfl w.heap.size _ rfl rfl 117 _ R9 (by kernel_rfl) rfl (by simp [Value.oneCell']) ?_))
 refine bodyPost_ret (rT rfl _ _ w.heap.size 117 _ (0,0) _ rfl (setRow_heap _ _ _ _ _ _ R9) Tryz.underlying117 rfl (by kernel_rfl)) rfl ?_;have hb10:Below w.heap.size w w3:=hb0.trans (hb1g.mono hb0.size);exact ⟨rfl,hb10.trans ((fS _ w.heap.size _).below (B:=w.heap.size) hb10.size (fun k hk=>by omega))⟩
theorem vt {B:Nat} (A:Option Addr) (c:Nat) (b:List UInt8) (w:World) (hB:B<=w.heap.size) (hr:Reads w B 1 A b.length (bl b)) (hc:b.length<=c) (hl:b.length<=1000) {n0:UInt8} {r:List UInt8} (hbb:n0::r=b) (her:(bJ (r.drop n0.toNat)).2.2≠0) :
 Calls Tryz.prog 121 #[.slice A b.length c] w fun e w'=>kw (cQ b) w.heap.size e w'/\Below w.heap.size w w':=by
 obtain ⟨w0,hw0⟩:∃ w0,w0=w.alloc (.cells #[.slice none 0 0,.int .i64 0,.slice none 0 0,.int .u32 0,.int .u32 0] 117):=⟨_,rfl⟩
 have hb0:Below w.heap.size w w0:=by rw [hw0];exact (bR _ w).alloc (nR _) _
 have hZ0:aa w0 w.heap.size 117 #[.slice none 0 0,.int .i64 0,.slice none 0 0,.int .u32 0,.int .u32 0]:=by rw [hw0];exact aa.new _ _ _
 have hCu:=ee A b.length c w0
 obtain ⟨w1,hw1⟩:∃ w1,w1=w0.alloc (.cells #[.slice A b.length c] 23):=⟨_,rfl⟩
 have hb1:Below w0.heap.size w0 w1:=by rw [hw1];exact (bR _ w0).alloc (nR _) _
 have hK1:aa w1 w0.heap.size 23 #[.slice A b.length c]:=by rw [hw1];exact aa.new _ _ _
 rw [<-hw1] at hCu
 obtain ⟨g,HG⟩:∃ g,Hid (w0.heap.size=g):=⟨_,lH rfl⟩
 rw [HG.out] at hCu hK1;have hb01:Below w.heap.size w w1:=hb0.trans (hb1.mono hb0.size)
 have hg0:w.heap.size<=g:=by have:=HG.out;have:=hb0.size;omega
 have hBg:B<=g:=nT hB hg0;have hC1:=bC hK1 (hr.below (hb01.mono hB)) hc hl 1 (by omega) hBg;unfold px at hCu;have HW0:=lH hw0;clear hw0 hw1;have HB:=lH hbb;clear hbb
 have hb1':0<b.length:=by rw [<-HB.out];simp
 obtain ⟨a,rfl,ha0,_⟩:=hr.2 hb1';have h8:=n0.toNat_lt
 have cw8:IntKind.i64.wrap (n0.toNat:Int)=(n0.toNat:Int):=by rw [IntKind.wrap_i64];omega
 have cw9:IntKind.i64.wrap (1+(n0.toNat:Int))=1+(n0.toNat:Int):=by rw [IntKind.wrap_i64];omega
 obtain ⟨k,HKm⟩:∃ k,Hid (min (1+n0.toNat) b.length=k):=⟨_,lH rfl⟩
 have kle:k<=b.length:=by rw [<-HKm.out];omega
 have mI:min (1+(n0.toNat:Int)) (b.length:Int)=(k:Int):=by rw [<-HKm.out];omega
 have mI2:(if 1+(n0.toNat:Int)<=(b.length:Int) then 1+(n0.toNat:Int) else (b.length:Int))=(k:Int):=by rw [<-HKm.out];split <;> omega
 have mI3:(if (b.length:Int)<1+(n0.toNat:Int) then (b.length:Int) else 1+(n0.toNat:Int))=(k:Int):=by rw [<-HKm.out];split <;> omega
 have k1:(k:Int)<=(b.length:Int):=by omega
 have k2:(b.length:Int)<=(c:Int):=by omega
 have k3:¬ (k:Int)<0:=by omega
 have k4:(k:Int)<=(c:Int):=by omega
 obtain ⟨D,HD⟩:∃ D,Hid (r.drop n0.toNat=D):=⟨_,lH rfl⟩
 have hDl:b.length-k=D.length:=by rw [<-HD.out,<-HKm.out,lD,<-HB.out,List.length_cons];omega
 obtain ⟨a2,ha2,hDR⟩:∃ a2,(if c=k then some a else some (a.add k))=some a2/\Reads w B 1 (some a2) D.length (bl D):=by
  by_cases hd0:D.length=0
  ·refine ⟨if c=k then a else a.add k,by split <;> rfl,by rw [aF,hd0],fun h=>absurd h (by omega)⟩
  ·refine ⟨a.add k,by rw [if_neg (by omega)],?_⟩
   have e:D=b.drop k:=by rw [<-HD.out,<-HB.out,show k=n0.toNat+1 by have:=HKm.out;omega];rfl
   rw [e,lD];exact bX hr (by omega)
 have HDR:=lH hDR;clear hDR
 obtain ⟨v,HV1⟩:∃ v,Hid ((bJ D).1=v):=⟨_,lH rfl⟩
 obtain ⟨wd,HV2⟩:∃ v,Hid ((bJ D).2.1=v):=⟨_,lH rfl⟩
 obtain ⟨er,HV3⟩:∃ v,Hid ((bJ D).2.2=v):=⟨_,lH rfl⟩
 have hDl2:D.length<=b.length:=by omega
 have hLR:np b=if er≠0\/1000<v then none else some (if v<=40 then ⟨r.take n0.toNat,(v:Nat),D.drop wd,0,0⟩ else ⟨r.take n0.toNat,(v:Nat),[],(if (D.drop wd).length<=8 then aC (D.drop wd) % 4294967296 else 0),0⟩):=by
  rw [<-HB.out,<-HV1.out,<-HV2.out,<-HV3.out,<-HD.out];rfl
 rw [HD.out,HV3.out] at her
 have hg:cQ b=none:=by unfold cQ;rw [hLR,if_pos (.inl her)]
 have e1:(er != 0)=true:=by simpa using her
 go_enter Tryz.func121,Tryz.ntmps121
 go_wp2_with (first
  | (rw [<-HW6.out];go_at_call 155;refine hV.mono ?_;rintro e w7 ⟨rfl,hb7⟩;have R7:=R6.below (hb7.mono (by have:=R6.lt;omega)) R6.lt)
  | (refine wpList_store_row rfl 117 _ _ rfl w.heap.size _ rfl rfl 117 _ R7 (by kernel_rfl) rfl (by simp [Value.oneCell']) ?_)
  | (go_at_call 79;refine hCl.mono ?_;rintro e w5 ⟨A6,c6,rfl,ho5,hb5⟩;have c35:=(hb5.cell (lT ha3 (nT hBg (Nat.le_of_lt hK4.lt)))).trans c34;obtain ⟨w6,hw6⟩:∃ w6,w6=w5.alloc (.cells #[.slice A6 kb2.length c6,.int .i64 0,.slice none 0 0,.int .u32 0,.int .u32 0] 117):=⟨_,rfl⟩;have hb6:Below w5.heap.size w5 w6:=(by rw [hw6];exact (bR _ _).alloc (nR _) _);have Z6:aa w6 w5.heap.size 117 #[.slice A6 kb2.length c6,.int .i64 0,.slice none 0 0,.int .u32 0,.int .u32 0]:=(by rw [hw6];exact aa.new _ _ _);have hg5:g<w5.heap.size:=(lT hK4.lt hb5.size);have hb56:Below w4.heap.size w4 w6:=(hb5.trans (hb6.mono hb5.size));have c36:(w5.alloc (.cells #[.slice A6 kb2.length c6,.int .i64 0,.slice none 0 0,.int .u32 0,.int .u32 0] 117)).cell? a3=some (.int .u8 (n0.toNat:Nat)):=(by rw [<-hw6];exact (hb6.cell (lT ha3 (nT hBg (Nat.le_of_lt hg5)))).trans c35);have hK6:=hK4.below hb56 hK4.lt;have hr6:=hr4.below (hb56.mono (nT hBg (Nat.le_of_lt hK4.lt)));have ho6:=eO ho5 hb6;have HW6:=lH hw6;have HZ6:=lH Z6;have hbg6:Below g w1 w6:=(hb3.trans hb4).trans (hb56.mono (Nat.le_of_lt hK4.lt));have hb0g:Below w0.heap.size w0 w6:=hb1.trans (hbg6.mono (by rw [HG.out];exact nR _));have hbw6:Below w.heap.size w w6:=hb0.trans (hb0g.mono hb0.size);have hV:=lJ (some a2) (c-k) D w6 (nT hB hbw6.size) (HDR.out.below (hbw6.mono hB)) (by omega) (by omega);rw [HV1.out,HV2.out,HV3.out] at hV;have R6:=hZ0.below hb0g hZ0.lt;clear hw6 Z6 c35)
  | (go_at_call 170;refine hC3.mono ?_;rintro e w4 ⟨kb2,r2,A5,A7,c7,HP3,rfl,hk4,hc4,hr4,hK4,hb4,hf4⟩;have hCl:=cu A5 kb2.length kb2 w4 hk4 (nT hBg (Nat.le_of_lt hK4.lt)) (by rw [HP3.out.1,lK,HP1.out.2,lD];omega);have c34:=(hb4.cell (lT ha3 hBg)).trans c3)
  | (go_at_call 170;refine hC1.mono ?_;rintro e w3 ⟨kb,r0,A1,A2,c2,HP1,rfl,hk3,hc2,hr2,hK3,hb3,hf3⟩;have hkb:kb=[n0]:=(by rw [HP1.out.1,<-HB.out];rfl);have HNB:=lH hkb;have hn0:((kb.length:Int)==0)=false:=(by rw [hkb];rfl);have i2:0<kb.length:=(by rw [hkb];exact Nat.zero_lt_one);have i1:(0:Int)<(kb.length:Int):=(by omega);obtain ⟨a3,rfl,ha3,hc3⟩:=hk3.2 i2;have c3:=hc3 0 (.int .u8 (n0.toNat:Nat)) (by rw [hkb];rfl);rw [show a3.add 0=a3 by unfold Addr.add;rw [if_pos rfl]] at c3;have hC3:=bC hK3 hr2 hc2 (by rw [HP1.out.2,lD];omega) n0.toNat (by have:=n0.toNat_lt;omega) hBg;clear hC1 hc3 hkb)
  | (rw [<-HW0.out];go_at_call 154;refine hCu.mono ?_;rintro e w2 ⟨rfl,h2⟩;have h2:=h2.symm;subst h2))
 refine bodyPost_ret (rT rfl _ _ w.heap.size 117 _ (0,0) _ rfl (setRow_heap _ _ _ _ _ _ R7) Tryz.underlying117 rfl (by kernel_rfl)) rfl ?_;rw [hg];have hb10:=hbw6.trans (hb7.mono hbw6.size);exact ⟨rfl,hb10.trans ((fS _ w.heap.size _).below (B:=w.heap.size) hb10.size (fun k hk=>by omega))⟩
theorem tC {B:Nat} (A:Option Addr) (c:Nat) (b:List UInt8) (w:World) (hB:B<=w.heap.size) (hr:Reads w B 1 A b.length (bl b)) (hc:b.length<=c) (hl:b.length<=1000) {n0:UInt8} {r:List UInt8} (hbb:n0::r=b) (her:(bJ (r.drop n0.toNat)).2.2=0) (hv:1000<(bJ (r.drop n0.toNat)).1) :
 Calls Tryz.prog 121 #[.slice A b.length c] w fun e w'=>kw (cQ b) w.heap.size e w'/\Below w.heap.size w w':=by
 obtain ⟨w0,hw0⟩:∃ w0,w0=w.alloc (.cells #[.slice none 0 0,.int .i64 0,.slice none 0 0,.int .u32 0,.int .u32 0] 117):=⟨_,rfl⟩
 have hb0:Below w.heap.size w w0:=by rw [hw0];exact (bR _ w).alloc (nR _) _
 have hZ0:aa w0 w.heap.size 117 #[.slice none 0 0,.int .i64 0,.slice none 0 0,.int .u32 0,.int .u32 0]:=by rw [hw0];exact aa.new _ _ _
 have hCu:=ee A b.length c w0
 obtain ⟨w1,hw1⟩:∃ w1,w1=w0.alloc (.cells #[.slice A b.length c] 23):=⟨_,rfl⟩
 have hb1:Below w0.heap.size w0 w1:=by rw [hw1];exact (bR _ w0).alloc (nR _) _
 have hK1:aa w1 w0.heap.size 23 #[.slice A b.length c]:=by rw [hw1];exact aa.new _ _ _
 rw [<-hw1] at hCu
 obtain ⟨g,HG⟩:∃ g,Hid (w0.heap.size=g):=⟨_,lH rfl⟩
 rw [HG.out] at hCu hK1;have hb01:Below w.heap.size w w1:=hb0.trans (hb1.mono hb0.size)
 have hg0:w.heap.size<=g:=by have:=HG.out;have:=hb0.size;omega
 have hBg:B<=g:=nT hB hg0;have hC1:=bC hK1 (hr.below (hb01.mono hB)) hc hl 1 (by omega) hBg;unfold px at hCu;have HW0:=lH hw0;clear hw0 hw1;have HB:=lH hbb;clear hbb
 have hb1':0<b.length:=by rw [<-HB.out];simp
 obtain ⟨a,rfl,ha0,_⟩:=hr.2 hb1';have h8:=n0.toNat_lt
 have cw8:IntKind.i64.wrap (n0.toNat:Int)=(n0.toNat:Int):=by rw [IntKind.wrap_i64];omega
 have cw9:IntKind.i64.wrap (1+(n0.toNat:Int))=1+(n0.toNat:Int):=by rw [IntKind.wrap_i64];omega
 obtain ⟨k,HKm⟩:∃ k,Hid (min (1+n0.toNat) b.length=k):=⟨_,lH rfl⟩
 have kle:k<=b.length:=by rw [<-HKm.out];omega
 have mI:min (1+(n0.toNat:Int)) (b.length:Int)=(k:Int):=by rw [<-HKm.out];omega
 have mI2:(if 1+(n0.toNat:Int)<=(b.length:Int) then 1+(n0.toNat:Int) else (b.length:Int))=(k:Int):=by rw [<-HKm.out];split <;> omega
 have mI3:(if (b.length:Int)<1+(n0.toNat:Int) then (b.length:Int) else 1+(n0.toNat:Int))=(k:Int):=by rw [<-HKm.out];split <;> omega
 have k1:(k:Int)<=(b.length:Int):=by omega
 have k2:(b.length:Int)<=(c:Int):=by omega
 have k3:¬ (k:Int)<0:=by omega
 have k4:(k:Int)<=(c:Int):=by omega
 obtain ⟨D,HD⟩:∃ D,Hid (r.drop n0.toNat=D):=⟨_,lH rfl⟩
 have hDl:b.length-k=D.length:=by rw [<-HD.out,<-HKm.out,lD,<-HB.out,List.length_cons];omega
 obtain ⟨a2,ha2,hDR⟩:∃ a2,(if c=k then some a else some (a.add k))=some a2/\Reads w B 1 (some a2) D.length (bl D):=by
  by_cases hd0:D.length=0
  ·refine ⟨if c=k then a else a.add k,by split <;> rfl,by rw [aF,hd0],fun h=>absurd h (by omega)⟩
  ·refine ⟨a.add k,by rw [if_neg (by omega)],?_⟩
   have e:D=b.drop k:=by rw [<-HD.out,<-HB.out,show k=n0.toNat+1 by have:=HKm.out;omega];rfl
   rw [e,lD];exact bX hr (by omega)
 have HDR:=lH hDR;clear hDR
 obtain ⟨v,HV1⟩:∃ v,Hid ((bJ D).1=v):=⟨_,lH rfl⟩
 obtain ⟨wd,HV2⟩:∃ v,Hid ((bJ D).2.1=v):=⟨_,lH rfl⟩
 obtain ⟨er,HV3⟩:∃ v,Hid ((bJ D).2.2=v):=⟨_,lH rfl⟩
 have hDl2:D.length<=b.length:=by omega
 have hLR:np b=if er≠0\/1000<v then none else some (if v<=40 then ⟨r.take n0.toNat,(v:Nat),D.drop wd,0,0⟩ else ⟨r.take n0.toNat,(v:Nat),[],(if (D.drop wd).length<=8 then aC (D.drop wd) % 4294967296 else 0),0⟩):=by
  rw [<-HB.out,<-HV1.out,<-HV2.out,<-HV3.out,<-HD.out];rfl
 rw [HD.out,HV3.out] at her;rw [HD.out,HV1.out] at hv
 have e1:(er != 0)=false:=by rw [her];rfl
 have hg:cQ b=none:=by unfold cQ;rw [hLR,if_pos (.inr hv)]
 have e2:decide (1000<(v:Int))=true:=dT (by omega);have e3:decide (1000<v)=true:=dT hv;go_enter Tryz.func121,Tryz.ntmps121
 go_wp2_with (first
  | (rw [<-HW6.out];go_at_call 155;refine hV.mono ?_;rintro e w7 ⟨rfl,hb7⟩;have R7:=R6.below (hb7.mono (by have:=R6.lt;omega)) R6.lt)
  | (refine wpList_store_row rfl 117 _ _ rfl w.heap.size _ rfl rfl 117 _ R7 (by kernel_rfl) rfl (by simp [Value.oneCell']) ?_)
  | (go_at_call 79;refine hCl.mono ?_;rintro e w5 ⟨A6,c6,rfl,ho5,hb5⟩;have c35:=(hb5.cell (lT ha3 (nT hBg (Nat.le_of_lt hK4.lt)))).trans c34;obtain ⟨w6,hw6⟩:∃ w6,w6=w5.alloc (.cells #[.slice A6 kb2.length c6,.int .i64 0,.slice none 0 0,.int .u32 0,.int .u32 0] 117):=⟨_,rfl⟩;have hb6:Below w5.heap.size w5 w6:=(by rw [hw6];exact (bR _ _).alloc (nR _) _);have Z6:aa w6 w5.heap.size 117 #[.slice A6 kb2.length c6,.int .i64 0,.slice none 0 0,.int .u32 0,.int .u32 0]:=(by rw [hw6];exact aa.new _ _ _);have hg5:g<w5.heap.size:=(lT hK4.lt hb5.size);have hb56:Below w4.heap.size w4 w6:=(hb5.trans (hb6.mono hb5.size));have c36:(w5.alloc (.cells #[.slice A6 kb2.length c6,.int .i64 0,.slice none 0 0,.int .u32 0,.int .u32 0] 117)).cell? a3=some (.int .u8 (n0.toNat:Nat)):=(by rw [<-hw6];exact (hb6.cell (lT ha3 (nT hBg (Nat.le_of_lt hg5)))).trans c35);have hK6:=hK4.below hb56 hK4.lt;have hr6:=hr4.below (hb56.mono (nT hBg (Nat.le_of_lt hK4.lt)));have ho6:=eO ho5 hb6;have HW6:=lH hw6;have HZ6:=lH Z6;have hbg6:Below g w1 w6:=(hb3.trans hb4).trans (hb56.mono (Nat.le_of_lt hK4.lt));have hb0g:Below w0.heap.size w0 w6:=hb1.trans (hbg6.mono (by rw [HG.out];exact nR _));have hbw6:Below w.heap.size w w6:=hb0.trans (hb0g.mono hb0.size);have hV:=lJ (some a2) (c-k) D w6 (nT hB hbw6.size) (HDR.out.below (hbw6.mono hB)) (by omega) (by omega);rw [HV1.out,HV2.out,HV3.out] at hV;have R6:=hZ0.below hb0g hZ0.lt;clear hw6 Z6 c35)
  | (go_at_call 170;refine hC3.mono ?_;rintro e w4 ⟨kb2,r2,A5,A7,c7,HP3,rfl,hk4,hc4,hr4,hK4,hb4,hf4⟩;have hCl:=cu A5 kb2.length kb2 w4 hk4 (nT hBg (Nat.le_of_lt hK4.lt)) (by rw [HP3.out.1,lK,HP1.out.2,lD];omega);have c34:=(hb4.cell (lT ha3 hBg)).trans c3)
  | (go_at_call 170;refine hC1.mono ?_;rintro e w3 ⟨kb,r0,A1,A2,c2,HP1,rfl,hk3,hc2,hr2,hK3,hb3,hf3⟩;have hkb:kb=[n0]:=(by rw [HP1.out.1,<-HB.out];rfl);have HNB:=lH hkb;have hn0:((kb.length:Int)==0)=false:=(by rw [hkb];rfl);have i2:0<kb.length:=(by rw [hkb];exact Nat.zero_lt_one);have i1:(0:Int)<(kb.length:Int):=(by omega);obtain ⟨a3,rfl,ha3,hc3⟩:=hk3.2 i2;have c3:=hc3 0 (.int .u8 (n0.toNat:Nat)) (by rw [hkb];rfl);rw [show a3.add 0=a3 by unfold Addr.add;rw [if_pos rfl]] at c3;have hC3:=bC hK3 hr2 hc2 (by rw [HP1.out.2,lD];omega) n0.toNat (by have:=n0.toNat_lt;omega) hBg;clear hC1 hc3 hkb)
  | (rw [<-HW0.out];go_at_call 154;refine hCu.mono ?_;rintro e w2 ⟨rfl,h2⟩;have h2:=h2.symm;subst h2))
 refine bodyPost_ret (rT rfl _ _ w.heap.size 117 _ (0,0) _ rfl (setRow_heap _ _ _ _ _ _ R7) Tryz.underlying117 rfl (by kernel_rfl)) rfl ?_;rw [hg];have hb10:=hbw6.trans (hb7.mono hbw6.size);exact ⟨rfl,hb10.trans ((fS _ w.heap.size _).below (B:=w.heap.size) hb10.size (fun k hk=>by omega))⟩
theorem vu {B:Nat} (A:Option Addr) (c:Nat) (b:List UInt8) (w:World) (hB:B<=w.heap.size) (hr:Reads w B 1 A b.length (bl b)) (hc:b.length<=c) (hl:b.length<=1000) {n0:UInt8} {r:List UInt8} (hbb:n0::r=b) (her:(bJ (r.drop n0.toNat)).2.2=0) (hv:(bJ (r.drop n0.toNat)).1<=1000) (h40:(bJ (r.drop n0.toNat)).1<=40) :
 Calls Tryz.prog 121 #[.slice A b.length c] w fun e w'=>kw (cQ b) w.heap.size e w'/\Below w.heap.size w w':=by
 obtain ⟨w0,hw0⟩:∃ w0,w0=w.alloc (.cells #[.slice none 0 0,.int .i64 0,.slice none 0 0,.int .u32 0,.int .u32 0] 117):=⟨_,rfl⟩
 have hb0:Below w.heap.size w w0:=by rw [hw0];exact (bR _ w).alloc (nR _) _
 have hZ0:aa w0 w.heap.size 117 #[.slice none 0 0,.int .i64 0,.slice none 0 0,.int .u32 0,.int .u32 0]:=by rw [hw0];exact aa.new _ _ _
 have hCu:=ee A b.length c w0
 obtain ⟨w1,hw1⟩:∃ w1,w1=w0.alloc (.cells #[.slice A b.length c] 23):=⟨_,rfl⟩
 have hb1:Below w0.heap.size w0 w1:=by rw [hw1];exact (bR _ w0).alloc (nR _) _
 have hK1:aa w1 w0.heap.size 23 #[.slice A b.length c]:=by rw [hw1];exact aa.new _ _ _
 rw [<-hw1] at hCu
 obtain ⟨g,HG⟩:∃ g,Hid (w0.heap.size=g):=⟨_,lH rfl⟩
 rw [HG.out] at hCu hK1;have hb01:Below w.heap.size w w1:=hb0.trans (hb1.mono hb0.size)
 have hg0:w.heap.size<=g:=by have:=HG.out;have:=hb0.size;omega
 have hBg:B<=g:=nT hB hg0;have hC1:=bC hK1 (hr.below (hb01.mono hB)) hc hl 1 (by omega) hBg;unfold px at hCu;have HG0:Hid (w0.heap.size=w.heap.size+1):=lH (by rw [hw0];simp);have HW0:=lH hw0;clear hw0 hw1;have HB:=lH hbb;clear hbb
 have hb1':0<b.length:=by rw [<-HB.out];simp
 obtain ⟨a,rfl,ha0,_⟩:=hr.2 hb1';have h8:=n0.toNat_lt
 have cw8:IntKind.i64.wrap (n0.toNat:Int)=(n0.toNat:Int):=by rw [IntKind.wrap_i64];omega
 have cw9:IntKind.i64.wrap (1+(n0.toNat:Int))=1+(n0.toNat:Int):=by rw [IntKind.wrap_i64];omega
 obtain ⟨k,HKm⟩:∃ k,Hid (min (1+n0.toNat) b.length=k):=⟨_,lH rfl⟩
 have kle:k<=b.length:=by rw [<-HKm.out];omega
 have mI:min (1+(n0.toNat:Int)) (b.length:Int)=(k:Int):=by rw [<-HKm.out];omega
 have mI2:(if 1+(n0.toNat:Int)<=(b.length:Int) then 1+(n0.toNat:Int) else (b.length:Int))=(k:Int):=by rw [<-HKm.out];split <;> omega
 have mI3:(if (b.length:Int)<1+(n0.toNat:Int) then (b.length:Int) else 1+(n0.toNat:Int))=(k:Int):=by rw [<-HKm.out];split <;> omega
 have k1:(k:Int)<=(b.length:Int):=by omega
 have k2:(b.length:Int)<=(c:Int):=by omega
 have k3:¬ (k:Int)<0:=by omega
 have k4:(k:Int)<=(c:Int):=by omega
 obtain ⟨D,HD⟩:∃ D,Hid (r.drop n0.toNat=D):=⟨_,lH rfl⟩
 have hDl:b.length-k=D.length:=by rw [<-HD.out,<-HKm.out,lD,<-HB.out,List.length_cons];omega
 obtain ⟨a2,ha2,hDR⟩:∃ a2,(if c=k then some a else some (a.add k))=some a2/\Reads w B 1 (some a2) D.length (bl D):=by
  by_cases hd0:D.length=0
  ·refine ⟨if c=k then a else a.add k,by split <;> rfl,by rw [aF,hd0],fun h=>absurd h (by omega)⟩
  ·refine ⟨a.add k,by rw [if_neg (by omega)],?_⟩
   have e:D=b.drop k:=by rw [<-HD.out,<-HB.out,show k=n0.toNat+1 by have:=HKm.out;omega];rfl
   rw [e,lD];exact bX hr (by omega)
 have HDR:=lH hDR;clear hDR
 obtain ⟨v,HV1⟩:∃ v,Hid ((bJ D).1=v):=⟨_,lH rfl⟩
 obtain ⟨wd,HV2⟩:∃ v,Hid ((bJ D).2.1=v):=⟨_,lH rfl⟩
 obtain ⟨er,HV3⟩:∃ v,Hid ((bJ D).2.2=v):=⟨_,lH rfl⟩
 have hDl2:D.length<=b.length:=by omega
 have hLR:np b=if er≠0\/1000<v then none else some (if v<=40 then ⟨r.take n0.toNat,(v:Nat),D.drop wd,0,0⟩ else ⟨r.take n0.toNat,(v:Nat),[],(if (D.drop wd).length<=8 then aC (D.drop wd) % 4294967296 else 0),0⟩):=by
  rw [<-HB.out,<-HV1.out,<-HV2.out,<-HV3.out,<-HD.out];rfl
 rw [HD.out,HV3.out] at her;rw [HD.out,HV1.out] at hv h40
 have e1:(er != 0)=false:=by rw [her];rfl
 have e2:decide (1000<(v:Int))=false:=dF (by omega);have e3:decide (1000<v)=false:=dF (by omega)
 have hwdD:wd<=D.length:=by rw [<-HV2.out];exact (rA (HV3.out.trans her)).2.1
 have cv:IntKind.i64.wrap (v:Int)=(v:Int):=by rw [IntKind.wrap_i64];omega
 have e4:decide ((v:Int)<=40)=true:=dT (by omega);have e5:decide (v<=40)=true:=dT h40;go_enter Tryz.func121,Tryz.ntmps121
 go_wp2_with (first
  | (go_at_call 170;refine hC4.mono ?_)
  | (rw [<-HW6.out];go_at_call 155;refine hV.mono ?_;rintro e w7 ⟨rfl,hb7⟩;have R7:=R6.below (hb7.mono (by have:=R6.lt;omega)) R6.lt;have hK7:=hK6.below hb7 hK6.lt;have hr7:=hr6.below (hb7.mono (nT hBg (Nat.le_of_lt hK6.lt)));have hC4:=bC hK7 hr7 hc4 (by rw [hrD];omega) wd (by omega) hBg;have HZ7:=lH (HZ6.out.below hb7 HZ6.out.lt);clear R7)
  | (go_at_call 79;refine hCl.mono ?_;rintro e w5 ⟨A6,c6,rfl,ho5,hb5⟩;have c35:=(hb5.cell (lT ha3 (nT hBg (Nat.le_of_lt hK4.lt)))).trans c34;obtain ⟨w6,hw6⟩:∃ w6,w6=w5.alloc (.cells #[.slice A6 kb2.length c6,.int .i64 0,.slice none 0 0,.int .u32 0,.int .u32 0] 117):=⟨_,rfl⟩;have hb6:Below w5.heap.size w5 w6:=(by rw [hw6];exact (bR _ _).alloc (nR _) _);have Z6:aa w6 w5.heap.size 117 #[.slice A6 kb2.length c6,.int .i64 0,.slice none 0 0,.int .u32 0,.int .u32 0]:=(by rw [hw6];exact aa.new _ _ _);have hg5:g<w5.heap.size:=(lT hK4.lt hb5.size);have hb56:Below w4.heap.size w4 w6:=(hb5.trans (hb6.mono hb5.size));have c36:(w5.alloc (.cells #[.slice A6 kb2.length c6,.int .i64 0,.slice none 0 0,.int .u32 0,.int .u32 0] 117)).cell? a3=some (.int .u8 (n0.toNat:Nat)):=(by rw [<-hw6];exact (hb6.cell (lT ha3 (nT hBg (Nat.le_of_lt hg5)))).trans c35);have hK6:=hK4.below hb56 hK4.lt;have hr6:=hr4.below (hb56.mono (nT hBg (Nat.le_of_lt hK4.lt)));have ho6:=eO ho5 hb6;have HW6:=lH hw6;have HZ6:=lH Z6;have hbg6:Below g w1 w6:=(hb3.trans hb4).trans (hb56.mono (Nat.le_of_lt hK4.lt));have hb0g:Below w0.heap.size w0 w6:=hb1.trans (hbg6.mono (by rw [HG.out];exact nR _));have hbw6:Below w.heap.size w w6:=hb0.trans (hb0g.mono hb0.size);have hV:=lJ (some a2) (c-k) D w6 (nT hB hbw6.size) (HDR.out.below (hbw6.mono hB)) (by omega) (by omega);rw [HV1.out,HV2.out,HV3.out] at hV;have R6:=hZ0.below hb0g hZ0.lt;clear hw6 Z6 c35)
  | (go_at_call 170;refine hC3.mono ?_;rintro e w4 ⟨kb2,r2,A5,A7,c7,HP3,rfl,hk4,hc4,hr4,hK4,hb4,hf4⟩;have hrD:r2=D:=(by rw [HP3.out.2,HP1.out.2,<-HD.out,<-HB.out];rfl);have hCl:=cu A5 kb2.length kb2 w4 hk4 (nT hBg (Nat.le_of_lt hK4.lt)) (by rw [HP3.out.1,lK,HP1.out.2,lD];omega);have c34:=(hb4.cell (lT ha3 hBg)).trans c3)
  | (go_at_call 170;refine hC1.mono ?_;rintro e w3 ⟨kb,r0,A1,A2,c2,HP1,rfl,hk3,hc2,hr2,hK3,hb3,hf3⟩;have hkb:kb=[n0]:=(by rw [HP1.out.1,<-HB.out];rfl);have HNB:=lH hkb;have hn0:((kb.length:Int)==0)=false:=(by rw [hkb];rfl);have i2:0<kb.length:=(by rw [hkb];exact Nat.zero_lt_one);have i1:(0:Int)<(kb.length:Int):=(by omega);obtain ⟨a3,rfl,ha3,hc3⟩:=hk3.2 i2;have c3:=hc3 0 (.int .u8 (n0.toNat:Nat)) (by rw [hkb];rfl);rw [show a3.add 0=a3 by unfold Addr.add;rw [if_pos rfl]] at c3;have hC3:=bC hK3 hr2 hc2 (by rw [HP1.out.2,lD];omega) n0.toNat (by have:=n0.toNat_lt;omega) hBg;clear hC1 hc3 hkb)
  | (rw [<-HW0.out];go_at_call 154;refine hCu.mono ?_;rintro e w2 ⟨rfl,h2⟩;have h2:=h2.symm;subst h2))
 rintro e w8 ⟨p1,r3,A8,A9,c9,HP4,rfl,_,hc9,hr8,hK8,hb8,hf8⟩;have HZ8:=lH (HZ7.out.fr hf8 (show ¬ w5.heap.size=g by omega));have k81:w8.cell? ⟨w5.heap.size,1,none⟩=some (.int .i64 0):=HZ8.out.cell 1;have f81:=HZ8.out.frozen 1
 obtain ⟨w9,hw9⟩:∃ w9,w9=w8.setCell ⟨w5.heap.size,1,none⟩ (.int .i64 (v:Nat)):=⟨_,rfl⟩
 have HZ9:=lH (show aa w9 w5.heap.size 117 #[.slice A6 kb2.length c6,.int .i64 (v:Nat),.slice none 0 0,.int .u32 0,.int .u32 0] by rw [hw9];exact HZ8.out.set_ 1 _)
 have hf9:Fr (fun k=>k=w5.heap.size) w8 w9:=(by rw [hw9];exact (Fr.refl (fun k=>k=w5.heap.size) w8).setCell (p:=⟨w5.heap.size,1,none⟩) (.inr rfl) _)
 have hK9:=hK8.fr hf9 (show ¬ g=w5.heap.size by omega);have hr9:=hr8.below (hf9.below (B:=B) (nT hBg (Nat.le_of_lt hK8.lt)) (fun k hk=>by omega));have hC5:=bC hK9 hr9 hc9 (by rw [HP4.out.2,hrD,lD];omega) b.length (by omega) hBg;have HW9:=lH hw9;clear hw9
 go_wp2_with (first
  | (rw [<-HW9.out];go_at_call 170;refine hC5.mono ?_))
 rintro e w10 ⟨rs,r4,A10,A11,c11,HP5,rfl,hk10,hc11,hr10,hK10,hb10,hf10⟩
 have hrs:rs=D.drop wd:=(by rw [HP5.out.1,HP4.out.2,hrD,List.take_of_length_le (by rw [lD];omega)])
 have HRS:=lH hrs
 have hrsl:rs.length<=1000:=(by rw [hrs,lD];omega)
 have HZ10:=lH (HZ9.out.fr hf10 (show ¬ w5.heap.size=g by omega));have k101:w10.cell? ⟨w5.heap.size,1,none⟩=some (.int .i64 (v:Nat)):=HZ10.out.cell 1;have hCl2:=cu A10 rs.length rs w10 hk10 (nT hBg (Nat.le_of_lt hK10.lt)) (by omega);have hN2:=pD A10 rs.length rs w10 hk10;clear hrs
 go_wp2_with (first
  | (go_at_call 79;refine hCl2.mono ?_))
 rintro e w11 ⟨A12,c12,rfl,ho11,hb11⟩;have hz10:w5.heap.size<w10.heap.size:=HZ10.out.lt;have HZ11:=lH (HZ10.out.below hb11 hz10);have k112:w11.cell? ⟨w5.heap.size,2,none⟩=some (.slice none 0 0):=HZ11.out.cell 2;have f112:=HZ11.out.frozen 2
 obtain ⟨wf,hwf⟩:∃ wf,wf=w11.setCell ⟨w5.heap.size,2,none⟩ (.slice A12 rs.length c12):=⟨_,rfl⟩
 have ZF:aa wf w5.heap.size 117 #[.slice A6 kb2.length c6,.int .i64 (v:Nat),.slice A12 rs.length c12,.int .u32 0,.int .u32 0]:=by rw [hwf];exact HZ11.out.set_ 2 _
 have hff:Fr (fun k=>k=w5.heap.size) w11 wf:=by rw [hwf];exact (Fr.refl (fun k=>k=w5.heap.size) w11).setCell (p:=⟨w5.heap.size,2,none⟩) (.inr rfl) _
 have HWF:=lH hwf;clear hwf;have hfa:Fr (fun k=>k=g\/k=w5.heap.size) w6 wf:=(Fr.of_below hb7).trans ((hf8.mono fun k _ h=>.inl h).trans ((hf9.mono fun k _ h=>.inr h).trans ((hf10.mono fun k _ h=>.inl h).trans ((Fr.of_below hb11).trans (hff.mono fun k _ h=>.inr h)))))
 have hgw:g=w.heap.size+1:=by rw [<-HG.out];exact HG0.out
 have hkf:bK wf (w.heap.size+1) A6 c6 kb2:=cj (oC ho6 hfa (fun ad e h=>by have h1:=jb ho5 ad e;have h2:=tz ho5 ad e;have h3:=hK4.lt;omega)) (by have:=hK4.lt;omega);have hvf:bK wf (w.heap.size+1) A12 c12 rs:=cj (oC ho11 hff (fun ad e h=>by have h1:=jb ho11 ad e;omega)) (by omega);have hbf:Below w.heap.size w wf:=hbw6.trans (hfa.below (B:=w.heap.size) hbw6.size (fun k hk=>by omega));have RF:aa wf w.heap.size 117 #[.slice none 0 0,.int .i64 0,.slice none 0 0,.int .u32 0,.int .u32 0]:=R6.fr hfa (by intro h;omega);have hrf:=hr.below (hbf.mono hB);have hP:=dP true ⟨A6,c6,A12,c12,⟨kb2,(v:Nat),rs,0,0⟩⟩ wf (nR _) hkf.rd hvf.rd ⟨Nat.zero_lt_succ _,Nat.zero_lt_succ _⟩;unfold CX.val cellV at hP;simp only [cY,if_true] at hP;have HLR2:Hid (np b=some ⟨kb2,(v:Nat),rs,0,0⟩):=lH (by rw [hLR,if_neg (by omega),if_pos (by omega),<-HRS.out];congr 2;rw [HP3.out.1,HP1.out.2,<-HB.out];rfl);have hcoB:iO true ⟨kb2,(v:Nat),rs,0,0⟩=gx ⟨kb2,(v:Nat),rs,0,0⟩:=rfl
 cases hok:iO true ⟨kb2,(v:Nat),rs,0,0⟩ with
 | false =>
  have hg:cQ b=none:=by unfold cQ;rw [HLR2.out];simp only;rw [if_neg];rw [<-hcoB,hok];simp
  rw [hok] at hP;simp only [Bool.false_eq_true,if_false] at hP
  go_wp2_with (first
   | (go_at_call 120;refine hP.mono ?_;rintro e w9' ⟨A9',n9,c9',rfl,_,hb9'⟩;have R9:=RF.below hb9' RF.lt)
   | (rw [<-HWF.out];refine wpList_load_row rfl 117 _ rfl _ rfl _ _ _ _ ZF Tryz.underlying117 rfl (by kernel_rfl) ?_)
   | (refine wpList_store_row rfl 117 _ _ rfl w.heap.size _ rfl rfl 117 _ R9 (by kernel_rfl) rfl (by simp [Value.oneCell']) ?_))
  refine bodyPost_ret (rT rfl _ _ w.heap.size 117 _ (0,0) _ rfl (setRow_heap _ _ _ _ _ _ R9) Tryz.underlying117 rfl (by kernel_rfl)) rfl ?_;rw [hg];have hb11':=hbf.trans (hb9'.mono hbf.size);exact ⟨rfl,hb11'.trans ((fS _ w.heap.size _).below (B:=w.heap.size) hb11'.size (fun k hk=>by omega))⟩
 | true =>
  rw [hok] at hP;simp only [if_true] at hP
  obtain ⟨xb,HXB⟩:∃ x,Hid (cB true ⟨kb2,(v:Nat),rs,0,0⟩=x):=⟨_,lH rfl⟩
  rw [HXB.out] at hP;have hE:=fun (W:World) (A9:Option Addr) (c9:Nat) (h:Reads W W.heap.size 1 A9 xb.length (bl xb)) (hb:Below wf.heap.size wf W)=>dI c9 c W h (hrf.below (hb.mono (nT hB hbf.size)))
  obtain ⟨q,HQ⟩:∃ q,Hid (decide (xb=b)=q):=⟨_,lH rfl⟩
  rw [HQ.out] at hE
  have hgI:cQ b=if q=true then some ⟨kb2,(v:Nat),rs,0,0⟩ else none:=by
   unfold cQ;rw [HLR2.out,<-HQ.out];simp only;rw [<-hcoB,hok,show gn ⟨kb2,(v:Nat),rs,0,0⟩=xb from HXB.out];simp
  cases q with
  | false =>
   go_wp2_with (first
    | (go_at_call 81;refine hE9.mono ?_;rintro e w10' ⟨rfl,h10⟩;have h10:=h10.symm;subst h10)
    | (go_at_call 120;refine hP.mono ?_;rintro e w9' ⟨A9',n9,c9',rfl,hn9,hb9'⟩;obtain ⟨rfl,ho9⟩:=hn9 trivial;have R9:=RF.below hb9' RF.lt;have Z9':=ZF.below hb9' ZF.lt;have hE9:=hE w9' A9' c9' (Reads.of_own ho9) hb9')
    | (rw [<-HWF.out];refine wpList_load_row rfl 117 _ rfl _ rfl _ _ _ _ ZF Tryz.underlying117 rfl (by kernel_rfl) ?_)
    | (refine wpList_store_row rfl 117 _ _ rfl w.heap.size _ rfl rfl 117 _ R9 (by kernel_rfl) rfl (by simp [Value.oneCell']) ?_))
   refine bodyPost_ret (rT rfl _ _ w.heap.size 117 _ (0,0) _ rfl (setRow_heap _ _ _ _ _ _ R9) Tryz.underlying117 rfl (by kernel_rfl)) rfl ?_;rw [hgI];have hb11':=hbf.trans (hb9'.mono hbf.size);exact ⟨rfl,hb11'.trans ((fS _ w.heap.size _).below (B:=w.heap.size) hb11'.size (fun k hk=>by omega))⟩
  | true =>
   go_wp2_with (first
    | (go_at_call 81;refine hE9.mono ?_;rintro e w10' ⟨rfl,h10⟩;have h10:=h10.symm;subst h10)
    | (go_at_call 120;refine hP.mono ?_;rintro e w9' ⟨A9',n9,c9',rfl,hn9,hb9'⟩;obtain ⟨rfl,ho9⟩:=hn9 trivial;have R9:=RF.below hb9' RF.lt;have Z9':=ZF.below hb9' ZF.lt;have hE9:=hE w9' A9' c9' (Reads.of_own ho9) hb9')
    | (refine wpList_load_row rfl 117 _ rfl _ rfl _ _ _ _ Z9' Tryz.underlying117 rfl (by kernel_rfl) ?_)
    | (rw [<-HWF.out];refine wpList_load_row rfl 117 _ rfl _ rfl _ _ _ _ ZF Tryz.underlying117 rfl (by kernel_rfl) ?_)
    | (refine wpList_store_row rfl 117 _ _ rfl w.heap.size _ rfl rfl 117 _ R9 (by kernel_rfl) rfl (by simp [Value.oneCell']) ?_))
   refine bodyPost_ret (rT rfl _ _ w.heap.size 117 _ (0,0) _ rfl (setRow_heap _ _ _ _ _ _ R9) Tryz.underlying117 rfl (by kernel_rfl)) rfl ?_;rw [hgI];have hb11':=hbf.trans (hb9'.mono hbf.size);exact ⟨⟨⟨A6,c6,A12,c12,⟨kb2,(v:Nat),rs,0,0⟩⟩,rfl,rfl,((hkf.below hb9').fr (fS _ w.heap.size _) (fun k hk=>by omega)).lo (Nat.le_succ _),((hvf.below hb9').fr (fS _ w.heap.size _) (fun k hk=>by omega)).lo (Nat.le_succ _)⟩,hb11'.trans ((fS _ w.heap.size _).below (B:=w.heap.size) hb11'.size (fun k hk=>by omega))⟩
theorem tD {B:Nat} (A:Option Addr) (c:Nat) (b:List UInt8) (w:World) (hB:B<=w.heap.size) (hr:Reads w B 1 A b.length (bl b)) (hc:b.length<=c) (hl:b.length<=1000) {n0:UInt8} {r:List UInt8} (hbb:n0::r=b) (her:(bJ (r.drop n0.toNat)).2.2=0) (hv:(bJ (r.drop n0.toNat)).1<=1000) (h40:40<(bJ (r.drop n0.toNat)).1) :
 Calls Tryz.prog 121 #[.slice A b.length c] w fun e w'=>kw (cQ b) w.heap.size e w'/\Below w.heap.size w w':=by
 obtain ⟨w0,hw0⟩:∃ w0,w0=w.alloc (.cells #[.slice none 0 0,.int .i64 0,.slice none 0 0,.int .u32 0,.int .u32 0] 117):=⟨_,rfl⟩
 have hb0:Below w.heap.size w w0:=by rw [hw0];exact (bR _ w).alloc (nR _) _
 have hZ0:aa w0 w.heap.size 117 #[.slice none 0 0,.int .i64 0,.slice none 0 0,.int .u32 0,.int .u32 0]:=by rw [hw0];exact aa.new _ _ _
 have hCu:=ee A b.length c w0
 obtain ⟨w1,hw1⟩:∃ w1,w1=w0.alloc (.cells #[.slice A b.length c] 23):=⟨_,rfl⟩
 have hb1:Below w0.heap.size w0 w1:=by rw [hw1];exact (bR _ w0).alloc (nR _) _
 have hK1:aa w1 w0.heap.size 23 #[.slice A b.length c]:=by rw [hw1];exact aa.new _ _ _
 rw [<-hw1] at hCu
 obtain ⟨g,HG⟩:∃ g,Hid (w0.heap.size=g):=⟨_,lH rfl⟩
 rw [HG.out] at hCu hK1;have hb01:Below w.heap.size w w1:=hb0.trans (hb1.mono hb0.size)
 have hg0:w.heap.size<=g:=by have:=HG.out;have:=hb0.size;omega
 have hBg:B<=g:=nT hB hg0;have hC1:=bC hK1 (hr.below (hb01.mono hB)) hc hl 1 (by omega) hBg;unfold px at hCu;have HG0:Hid (w0.heap.size=w.heap.size+1):=lH (by rw [hw0];simp);have HW0:=lH hw0;clear hw0 hw1;have HB:=lH hbb;clear hbb
 have hb1':0<b.length:=by rw [<-HB.out];simp
 obtain ⟨a,rfl,ha0,_⟩:=hr.2 hb1';have h8:=n0.toNat_lt
 have cw8:IntKind.i64.wrap (n0.toNat:Int)=(n0.toNat:Int):=by rw [IntKind.wrap_i64];omega
 have cw9:IntKind.i64.wrap (1+(n0.toNat:Int))=1+(n0.toNat:Int):=by rw [IntKind.wrap_i64];omega
 obtain ⟨k,HKm⟩:∃ k,Hid (min (1+n0.toNat) b.length=k):=⟨_,lH rfl⟩
 have kle:k<=b.length:=by rw [<-HKm.out];omega
 have mI:min (1+(n0.toNat:Int)) (b.length:Int)=(k:Int):=by rw [<-HKm.out];omega
 have mI2:(if 1+(n0.toNat:Int)<=(b.length:Int) then 1+(n0.toNat:Int) else (b.length:Int))=(k:Int):=by rw [<-HKm.out];split <;> omega
 have mI3:(if (b.length:Int)<1+(n0.toNat:Int) then (b.length:Int) else 1+(n0.toNat:Int))=(k:Int):=by rw [<-HKm.out];split <;> omega
 have k1:(k:Int)<=(b.length:Int):=by omega
 have k2:(b.length:Int)<=(c:Int):=by omega
 have k3:¬ (k:Int)<0:=by omega
 have k4:(k:Int)<=(c:Int):=by omega
 obtain ⟨D,HD⟩:∃ D,Hid (r.drop n0.toNat=D):=⟨_,lH rfl⟩
 have hDl:b.length-k=D.length:=by rw [<-HD.out,<-HKm.out,lD,<-HB.out,List.length_cons];omega
 obtain ⟨a2,ha2,hDR⟩:∃ a2,(if c=k then some a else some (a.add k))=some a2/\Reads w B 1 (some a2) D.length (bl D):=by
  by_cases hd0:D.length=0
  ·refine ⟨if c=k then a else a.add k,by split <;> rfl,by rw [aF,hd0],fun h=>absurd h (by omega)⟩
  ·refine ⟨a.add k,by rw [if_neg (by omega)],?_⟩
   have e:D=b.drop k:=by rw [<-HD.out,<-HB.out,show k=n0.toNat+1 by have:=HKm.out;omega];rfl
   rw [e,lD];exact bX hr (by omega)
 have HDR:=lH hDR;clear hDR
 obtain ⟨v,HV1⟩:∃ v,Hid ((bJ D).1=v):=⟨_,lH rfl⟩
 obtain ⟨wd,HV2⟩:∃ v,Hid ((bJ D).2.1=v):=⟨_,lH rfl⟩
 obtain ⟨er,HV3⟩:∃ v,Hid ((bJ D).2.2=v):=⟨_,lH rfl⟩
 have hDl2:D.length<=b.length:=by omega
 have hLR:np b=if er≠0\/1000<v then none else some (if v<=40 then ⟨r.take n0.toNat,(v:Nat),D.drop wd,0,0⟩ else ⟨r.take n0.toNat,(v:Nat),[],(if (D.drop wd).length<=8 then aC (D.drop wd) % 4294967296 else 0),0⟩):=by
  rw [<-HB.out,<-HV1.out,<-HV2.out,<-HV3.out,<-HD.out];rfl
 rw [HD.out,HV3.out] at her;rw [HD.out,HV1.out] at hv h40
 have e1:(er != 0)=false:=by rw [her];rfl
 have e2:decide (1000<(v:Int))=false:=dF (by omega);have e3:decide (1000<v)=false:=dF (by omega)
 have hwdD:wd<=D.length:=by rw [<-HV2.out];exact (rA (HV3.out.trans her)).2.1
 have cv:IntKind.i64.wrap (v:Int)=(v:Int):=by rw [IntKind.wrap_i64];omega
 have e4:decide ((v:Int)<=40)=false:=dF (by omega);have e5:decide (v<=40)=false:=dF (by omega);go_enter Tryz.func121,Tryz.ntmps121
 go_wp2_with (first
  | (go_at_call 170;refine hC4.mono ?_)
  | (rw [<-HW6.out];go_at_call 155;refine hV.mono ?_;rintro e w7 ⟨rfl,hb7⟩;have R7:=R6.below (hb7.mono (by have:=R6.lt;omega)) R6.lt;have hK7:=hK6.below hb7 hK6.lt;have hr7:=hr6.below (hb7.mono (nT hBg (Nat.le_of_lt hK6.lt)));have hC4:=bC hK7 hr7 hc4 (by rw [hrD];omega) wd (by omega) hBg;have HZ7:=lH (HZ6.out.below hb7 HZ6.out.lt);clear R7)
  | (go_at_call 79;refine hCl.mono ?_;rintro e w5 ⟨A6,c6,rfl,ho5,hb5⟩;have c35:=(hb5.cell (lT ha3 (nT hBg (Nat.le_of_lt hK4.lt)))).trans c34;obtain ⟨w6,hw6⟩:∃ w6,w6=w5.alloc (.cells #[.slice A6 kb2.length c6,.int .i64 0,.slice none 0 0,.int .u32 0,.int .u32 0] 117):=⟨_,rfl⟩;have hb6:Below w5.heap.size w5 w6:=(by rw [hw6];exact (bR _ _).alloc (nR _) _);have Z6:aa w6 w5.heap.size 117 #[.slice A6 kb2.length c6,.int .i64 0,.slice none 0 0,.int .u32 0,.int .u32 0]:=(by rw [hw6];exact aa.new _ _ _);have hg5:g<w5.heap.size:=(lT hK4.lt hb5.size);have hb56:Below w4.heap.size w4 w6:=(hb5.trans (hb6.mono hb5.size));have c36:(w5.alloc (.cells #[.slice A6 kb2.length c6,.int .i64 0,.slice none 0 0,.int .u32 0,.int .u32 0] 117)).cell? a3=some (.int .u8 (n0.toNat:Nat)):=(by rw [<-hw6];exact (hb6.cell (lT ha3 (nT hBg (Nat.le_of_lt hg5)))).trans c35);have hK6:=hK4.below hb56 hK4.lt;have hr6:=hr4.below (hb56.mono (nT hBg (Nat.le_of_lt hK4.lt)));have ho6:=eO ho5 hb6;have HW6:=lH hw6;have HZ6:=lH Z6;have hbg6:Below g w1 w6:=(hb3.trans hb4).trans (hb56.mono (Nat.le_of_lt hK4.lt));have hb0g:Below w0.heap.size w0 w6:=hb1.trans (hbg6.mono (by rw [HG.out];exact nR _));have hbw6:Below w.heap.size w w6:=hb0.trans (hb0g.mono hb0.size);have hV:=lJ (some a2) (c-k) D w6 (nT hB hbw6.size) (HDR.out.below (hbw6.mono hB)) (by omega) (by omega);rw [HV1.out,HV2.out,HV3.out] at hV;have R6:=hZ0.below hb0g hZ0.lt;clear hw6 Z6 c35)
  | (go_at_call 170;refine hC3.mono ?_;rintro e w4 ⟨kb2,r2,A5,A7,c7,HP3,rfl,hk4,hc4,hr4,hK4,hb4,hf4⟩;have hrD:r2=D:=(by rw [HP3.out.2,HP1.out.2,<-HD.out,<-HB.out];rfl);have hCl:=cu A5 kb2.length kb2 w4 hk4 (nT hBg (Nat.le_of_lt hK4.lt)) (by rw [HP3.out.1,lK,HP1.out.2,lD];omega);have c34:=(hb4.cell (lT ha3 hBg)).trans c3)
  | (go_at_call 170;refine hC1.mono ?_;rintro e w3 ⟨kb,r0,A1,A2,c2,HP1,rfl,hk3,hc2,hr2,hK3,hb3,hf3⟩;have hkb:kb=[n0]:=(by rw [HP1.out.1,<-HB.out];rfl);have HNB:=lH hkb;have hn0:((kb.length:Int)==0)=false:=(by rw [hkb];rfl);have i2:0<kb.length:=(by rw [hkb];exact Nat.zero_lt_one);have i1:(0:Int)<(kb.length:Int):=(by omega);obtain ⟨a3,rfl,ha3,hc3⟩:=hk3.2 i2;have c3:=hc3 0 (.int .u8 (n0.toNat:Nat)) (by rw [hkb];rfl);rw [show a3.add 0=a3 by unfold Addr.add;rw [if_pos rfl]] at c3;have hC3:=bC hK3 hr2 hc2 (by rw [HP1.out.2,lD];omega) n0.toNat (by have:=n0.toNat_lt;omega) hBg;clear hC1 hc3 hkb)
  | (rw [<-HW0.out];go_at_call 154;refine hCu.mono ?_;rintro e w2 ⟨rfl,h2⟩;have h2:=h2.symm;subst h2))
 rintro e w8 ⟨p1,r3,A8,A9,c9,HP4,rfl,_,hc9,hr8,hK8,hb8,hf8⟩;have HZ8:=lH (HZ7.out.fr hf8 (show ¬ w5.heap.size=g by omega));have k81:w8.cell? ⟨w5.heap.size,1,none⟩=some (.int .i64 0):=HZ8.out.cell 1;have f81:=HZ8.out.frozen 1
 obtain ⟨w9,hw9⟩:∃ w9,w9=w8.setCell ⟨w5.heap.size,1,none⟩ (.int .i64 (v:Nat)):=⟨_,rfl⟩
 have HZ9:=lH (show aa w9 w5.heap.size 117 #[.slice A6 kb2.length c6,.int .i64 (v:Nat),.slice none 0 0,.int .u32 0,.int .u32 0] by rw [hw9];exact HZ8.out.set_ 1 _)
 have hf9:Fr (fun k=>k=w5.heap.size) w8 w9:=(by rw [hw9];exact (Fr.refl (fun k=>k=w5.heap.size) w8).setCell (p:=⟨w5.heap.size,1,none⟩) (.inr rfl) _)
 have hK9:=hK8.fr hf9 (show ¬ g=w5.heap.size by omega);have hr9:=hr8.below (hf9.below (B:=B) (nT hBg (Nat.le_of_lt hK8.lt)) (fun k hk=>by omega));have hC5:=bC hK9 hr9 hc9 (by rw [HP4.out.2,hrD,lD];omega) b.length (by omega) hBg;have HW9:=lH hw9;clear hw9
 go_wp2_with (first
  | (rw [<-HW9.out];go_at_call 170;refine hC5.mono ?_))
 rintro e w10 ⟨rs,r4,A10,A11,c11,HP5,rfl,hk10,hc11,hr10,hK10,hb10,hf10⟩
 have hrs:rs=D.drop wd:=(by rw [HP5.out.1,HP4.out.2,hrD,List.take_of_length_le (by rw [lD];omega)])
 have HRS:=lH hrs
 have hrsl:rs.length<=1000:=(by rw [hrs,lD];omega)
 have HZ10:=lH (HZ9.out.fr hf10 (show ¬ w5.heap.size=g by omega));have k101:w10.cell? ⟨w5.heap.size,1,none⟩=some (.int .i64 (v:Nat)):=HZ10.out.cell 1;have hCl2:=cu A10 rs.length rs w10 hk10 (nT hBg (Nat.le_of_lt hK10.lt)) (by omega);have hN2:=pD A10 rs.length rs w10 hk10;clear hrs
 obtain ⟨nl,HNL⟩:∃ k,Hid (AO rs=k):=⟨_,lH rfl⟩
 rw [HNL.out] at hN2
 have hnl:nl<18446744073709551616:=by rw [<-HNL.out];exact EK rs
 have cv2:IntKind.u32.wrap (nl:Int)=((nl % 4294967296:Nat):Int):=by rw [IntKind.wrap_u32];omega
 obtain ⟨ov,HOVe⟩:∃ k,Hid (nl % 4294967296=k):=⟨_,lH rfl⟩
 rw [HOVe.out] at cv2
 have hov:ov<4294967296:=by rw [<-HOVe.out];exact Nat.mod_lt _ (by decide)
 have k103:w10.cell? ⟨w5.heap.size,3,none⟩=some (.int .u32 0):=HZ10.out.cell 3;have f103:=HZ10.out.frozen 3;have hz10:w5.heap.size<w10.heap.size:=HZ10.out.lt
 obtain ⟨wf,hwf⟩:∃ wf,wf=w10.setCell ⟨w5.heap.size,3,none⟩ (.int .u32 (ov:Nat)):=⟨_,rfl⟩
 have ZF:aa wf w5.heap.size 117 #[.slice A6 kb2.length c6,.int .i64 (v:Nat),.slice none 0 0,.int .u32 (ov:Nat),.int .u32 0]:=by rw [hwf];exact HZ10.out.set_ 3 _
 have hff:Fr (fun k=>k=w5.heap.size) w10 wf:=by rw [hwf];exact (Fr.refl (fun k=>k=w5.heap.size) w10).setCell (p:=⟨w5.heap.size,3,none⟩) (.inr rfl) _
 have HWF:=lH hwf;clear hwf;have hfa:Fr (fun k=>k=g\/k=w5.heap.size) w6 wf:=(Fr.of_below hb7).trans ((hf8.mono fun k _ h=>.inl h).trans ((hf9.mono fun k _ h=>.inr h).trans ((hf10.mono fun k _ h=>.inl h).trans (hff.mono fun k _ h=>.inr h))))
 have hgw:g=w.heap.size+1:=by rw [<-HG.out];exact HG0.out
 have hkf:bK wf (w.heap.size+1) A6 c6 kb2:=cj (oC ho6 hfa (fun ad e h=>by have h1:=jb ho5 ad e;have h2:=tz ho5 ad e;have h3:=hK4.lt;omega)) (by have:=hK4.lt;omega);have hvf:bK wf (w.heap.size+1) none 0 []:=bK.nil _ _ 0;have hbf:Below w.heap.size w wf:=hbw6.trans (hfa.below (B:=w.heap.size) hbw6.size (fun k hk=>by omega));have RF:aa wf w.heap.size 117 #[.slice none 0 0,.int .i64 0,.slice none 0 0,.int .u32 0,.int .u32 0]:=R6.fr hfa (by intro h;omega)
 go_wp2_with (first
  | (go_at_call 77;refine hN2.mono ?_))
 rintro e w12 ⟨rfl,h12⟩;subst h12;have hrf:=hr.below (hbf.mono hB);have hP:=dP true ⟨A6,c6,none,0,⟨kb2,(v:Nat),[],ov,0⟩⟩ wf (nR _) hkf.rd hvf.rd ⟨hov,Nat.zero_lt_succ _⟩;unfold CX.val cellV at hP;simp only [cY,if_true] at hP
 have hkey:r.take n0.toNat=kb2:=by rw [HP3.out.1,HP1.out.2,<-HB.out];rfl
 have hovr:(if rs.length<=8 then aC rs % 4294967296 else 0)=ov:=by
  rw [<-HOVe.out,<-HNL.out];unfold AO
  split <;> rfl
 have HLR2:Hid (np b=some ⟨kb2,(v:Nat),[],ov,0⟩):=lH (by rw [hLR,if_neg (by omega),if_neg (by omega),<-HRS.out,hkey,hovr]);have hcoB:iO true ⟨kb2,(v:Nat),[],ov,0⟩=gx ⟨kb2,(v:Nat),[],ov,0⟩:=rfl
 cases hok:iO true ⟨kb2,(v:Nat),[],ov,0⟩ with
 | false =>
  have hg:cQ b=none:=by unfold cQ;rw [HLR2.out];simp only;rw [if_neg];rw [<-hcoB,hok];simp
  rw [hok] at hP;simp only [Bool.false_eq_true,if_false] at hP
  go_wp2_with (first
   | (go_at_call 120;refine hP.mono ?_;rintro e w9' ⟨A9',n9,c9',rfl,_,hb9'⟩;have R9:=RF.below hb9' RF.lt)
   | (rw [<-HWF.out];refine wpList_load_row rfl 117 _ rfl _ rfl _ _ _ _ ZF Tryz.underlying117 rfl (by kernel_rfl) ?_)
   | (refine wpList_store_row rfl 117 _ _ rfl w.heap.size _ rfl rfl 117 _ R9 (by kernel_rfl) rfl (by simp [Value.oneCell']) ?_))
  refine bodyPost_ret (rT rfl _ _ w.heap.size 117 _ (0,0) _ rfl (setRow_heap _ _ _ _ _ _ R9) Tryz.underlying117 rfl (by kernel_rfl)) rfl ?_;rw [hg];have hb11':=hbf.trans (hb9'.mono hbf.size);exact ⟨rfl,hb11'.trans ((fS _ w.heap.size _).below (B:=w.heap.size) hb11'.size (fun k hk=>by omega))⟩
 | true =>
  rw [hok] at hP;simp only [if_true] at hP
  obtain ⟨xb,HXB⟩:∃ x,Hid (cB true ⟨kb2,(v:Nat),[],ov,0⟩=x):=⟨_,lH rfl⟩
  rw [HXB.out] at hP;have hE:=fun (W:World) (A9:Option Addr) (c9:Nat) (h:Reads W W.heap.size 1 A9 xb.length (bl xb)) (hb:Below wf.heap.size wf W)=>dI c9 c W h (hrf.below (hb.mono (nT hB hbf.size)))
  obtain ⟨q,HQ⟩:∃ q,Hid (decide (xb=b)=q):=⟨_,lH rfl⟩
  rw [HQ.out] at hE
  have hgI:cQ b=if q=true then some ⟨kb2,(v:Nat),[],ov,0⟩ else none:=by
   unfold cQ;rw [HLR2.out,<-HQ.out];simp only;rw [<-hcoB,hok,show gn ⟨kb2,(v:Nat),[],ov,0⟩=xb from HXB.out];simp
  cases q with
  | false =>
   go_wp2_with (first
    | (go_at_call 81;refine hE9.mono ?_;rintro e w10' ⟨rfl,h10⟩;have h10:=h10.symm;subst h10)
    | (go_at_call 120;refine hP.mono ?_;rintro e w9' ⟨A9',n9,c9',rfl,hn9,hb9'⟩;obtain ⟨rfl,ho9⟩:=hn9 trivial;have R9:=RF.below hb9' RF.lt;have Z9':=ZF.below hb9' ZF.lt;have hE9:=hE w9' A9' c9' (Reads.of_own ho9) hb9')
    | (rw [<-HWF.out];refine wpList_load_row rfl 117 _ rfl _ rfl _ _ _ _ ZF Tryz.underlying117 rfl (by kernel_rfl) ?_)
    | (refine wpList_store_row rfl 117 _ _ rfl w.heap.size _ rfl rfl 117 _ R9 (by kernel_rfl) rfl (by simp [Value.oneCell']) ?_))
   refine bodyPost_ret (rT rfl _ _ w.heap.size 117 _ (0,0) _ rfl (setRow_heap _ _ _ _ _ _ R9) Tryz.underlying117 rfl (by kernel_rfl)) rfl ?_;rw [hgI];have hb11':=hbf.trans (hb9'.mono hbf.size);exact ⟨rfl,hb11'.trans ((fS _ w.heap.size _).below (B:=w.heap.size) hb11'.size (fun k hk=>by omega))⟩
  | true =>
   go_wp2_with (first
    | (go_at_call 81;refine hE9.mono ?_;rintro e w10' ⟨rfl,h10⟩;have h10:=h10.symm;subst h10)
    | (go_at_call 120;refine hP.mono ?_;rintro e w9' ⟨A9',n9,c9',rfl,hn9,hb9'⟩;obtain ⟨rfl,ho9⟩:=hn9 trivial;have R9:=RF.below hb9' RF.lt;have Z9':=ZF.below hb9' ZF.lt;have hE9:=hE w9' A9' c9' (Reads.of_own ho9) hb9')
    | (refine wpList_load_row rfl 117 _ rfl _ rfl _ _ _ _ Z9' Tryz.underlying117 rfl (by kernel_rfl) ?_)
    | (rw [<-HWF.out];refine wpList_load_row rfl 117 _ rfl _ rfl _ _ _ _ ZF Tryz.underlying117 rfl (by kernel_rfl) ?_)
    | (refine wpList_store_row rfl 117 _ _ rfl w.heap.size _ rfl rfl 117 _ R9 (by kernel_rfl) rfl (by simp [Value.oneCell']) ?_))
   refine bodyPost_ret (rT rfl _ _ w.heap.size 117 _ (0,0) _ rfl (setRow_heap _ _ _ _ _ _ R9) Tryz.underlying117 rfl (by kernel_rfl)) rfl ?_;rw [hgI];have hb11':=hbf.trans (hb9'.mono hbf.size);exact ⟨⟨⟨A6,c6,none,0,⟨kb2,(v:Nat),[],ov,0⟩⟩,rfl,rfl,((hkf.below hb9').fr (fS _ w.heap.size _) (fun k hk=>by omega)).lo (Nat.le_succ _),((hvf.below hb9').fr (fS _ w.heap.size _) (fun k hk=>by omega)).lo (Nat.le_succ _)⟩,hb11'.trans ((fS _ w.heap.size _).below (B:=w.heap.size) hb11'.size (fun k hk=>by omega))⟩
theorem aw {w w1:World} (h:aH w) (hb:Below w.heap.size w w1):aH w1:=h.of fun hl=>hb.block 2 hl
theorem za {w:World} {B:Nat} {x:NX} (h1:x.l=[]) (h2:x.data=[]):aP w B x :=
 have h0:∀ y,y∉x.l:=fun y hy=>by rw [h1] at hy;exact absurd hy (List.not_mem_nil)
 ⟨⟨.inl h1,fun y hy=>absurd hy (h0 y),fun y hy=>absurd hy (h0 y)⟩,by rw [h2];exact ⟨rfl,fun h=>absurd h (by simp)⟩,fun y hy=>absurd hy (h0 y),by rw [h1];exact zL _,by rw [h2];exact zL _⟩
theorem AP {W W':World} {base base' e e' s s' n n':Nat} {v v':Value} {xs ys:List Value} (h:W.ownsRow base e s v n xs) (hI:W.ownsRow base' e' s' v' n' ys) (hne:e≠e') (hg:W.grownBy W' v'.ownBlock):W'.ownsRow base e s v n xs:=by
 refine ⟨h.1,h.2.imp id ?_⟩;rintro ⟨g,cap,cur,e1,e2,e3,r⟩;refine ⟨g,cap,cur,e1,e2,(hg.block g (aS.1 e3).1 fun eg=>?_).trans e3,r⟩
 rcases hI.2 with ⟨h0,_⟩ | ⟨g',cap',cur',e1',_,e3',_⟩
 ·subst h0;cases eg
 ·subst e1'
  have:g=g':=by simpa [Value.ownBlock] using eg
  subst this;rw [e3] at e3'
  injection e3' with e3'
  injection e3' with _ e4 _
  exact hne e4
theorem Fr.late {X Y:Nat->Prop} {a b c:World} (h:Fr X a b) (k:Fr Y b c) (hY:∀ j,j<a.heap.size->Y j->X j):Fr X a c :=
 ⟨k.os.trans h.os,k.tape.trans h.tape,k.output.trans h.output,nT h.size k.size,fun i hi hx=>(k.block i (lT hi h.size) (fun hy=>hx (hY i hi hy))).trans (h.block i hi hx)⟩
def ul (l:List Nat):List Value:=l.map fun n=>.int .u32 (n:Nat)
theorem ownB {A:Option Addr} {n c:Nat} {g:Nat} (h:(.slice A n c:Value).ownBlock=some g):∃ ad,A=some ad/\ad.block=g:=by
 cases A with
 | none=>cases h
 | some ad=>exact ⟨ad,rfl,by simpa [Value.ownBlock] using h⟩
theorem aW {w w':World} {A:Option Addr} {n c k:Nat} (h:w.grownBy w' (.slice A n c:Value).ownBlock) (hk:k<w.heap.size) (hA:∀ ad,A=some ad->ad.block≠k):w'.heap[k]?=w.heap[k]? :=
 h.block k hk fun e=>by
  obtain ⟨ad,e1,e2⟩:=ownB e.symm;exact hA ad e1 e2
theorem jc {w w':World} {base:Nat} {A:Option Addr} {n c:Nat} (h:w.grownBy w' (.slice A n c:Value).ownBlock) (hb:base<=w.heap.size) (hA:∀ ad,A=some ad->base<=ad.block):Below base w w' :=
 ⟨h.os,h.tape,h.output,h.size,fun k hk=>aW h (by omega) (fun ad e hh=>by have:=hA ad e;omega)⟩
def cG (leaf:Bool) (b:List UInt8):Option PC:=if leaf then cQ b else dY b
theorem vw {B:Nat} (A:Option Addr) (c:Nat) (b:List UInt8) (w:World) (hB:B<=w.heap.size) (hr:Reads w B 1 A b.length (bl b)) (hc:b.length<=c) (hl:b.length<=1000) :
 Calls Tryz.prog 121 #[.slice A b.length c] w fun e w'=>kw (cQ b) w.heap.size e w'/\Below w.heap.size w w':=by
 rcases (show b=[]\/∃ n0 r,n0::r=b by cases b <;> simp) with rfl | ⟨n0,r,hbb⟩
 ·exact vr A c w hB hr hc hl
 ·by_cases her:(bJ (r.drop n0.toNat)).2.2=0
  ·by_cases hv:(bJ (r.drop n0.toNat)).1<=1000
   ·by_cases h40:(bJ (r.drop n0.toNat)).1<=40
    ·exact vu A c b w hB hr hc hl hbb her hv h40
    ·exact tD A c b w hB hr hc hl hbb her hv (by omega)
   ·exact tC A c b w hB hr hc hl hbb her (by omega)
  ·exact vt A c b w hB hr hc hl hbb her
theorem vx {B:Nat} (leaf:Bool) (A:Option Addr) (c:Nat) (b:List UInt8) (w:World) (hB:B<=w.heap.size) (hr:Reads w B 1 A b.length (bl b)) (hc:b.length<=c) (hl:b.length<=1000) :
 Calls Tryz.prog (dW leaf) #[.slice A b.length c] w fun e w'=>kw (cG leaf b) w.heap.size e w'/\Below w.heap.size w w':=by
 cases leaf with
 | true=>exact vw A c b w hB hr hc hl
 | false=>exact tr A c b w hB hr hc hl
theorem TC:Ce Tryz.prog 93 117 5 64:=Ce.of Tryz.underlying93 (z:=.agg #[.slice none 0 0,.int .i64 0,.slice none 0 0,.int .u32 0,.int .u32 0]) (by kernel_rfl) rfl (by omega) (by omega)
def dD (L:List CX):List Value:=L.flatMap CX.cells
theorem pE (a b:List CX):dD a++dD b=dD (a++b):=by unfold dD;rw [List.flatMap_append]
theorem pF (L:List CX):∀ u∈dD L,u.oneCell'=true:=by
 intro u hu;obtain ⟨x,_,hx⟩:=List.mem_flatMap.1 hu;simp only [CX.cells,List.mem_cons,List.not_mem_nil,or_false] at hx
 rcases hx with rfl | rfl | rfl | rfl | rfl <;> rfl
theorem pG:∀ (L:List CX) (k:Nat) (x:CX),L[k]?=some x->∀ (j:Nat) (u:Value),x.cells[j]?=some u->(dD L)[k*5+j]?=some u
 | [],k,x,h,j,u,_=>by simp at h
 | y::L,0,x,h,j,u,hu=>by
  simp only [List.getElem?_cons_zero,Option.some.injEq] at h;subst h;have hj:j<5:=(lS.1 hu).1;unfold dD;rw [List.flatMap_cons,Nat.zero_mul,Nat.zero_add,List.getElem?_append_left (by exact hj)];exact hu
 | y::L,k+1,x,h,j,u,hu=>by
  rw [List.getElem?_cons_succ] at h;have ih:=pG L k x h j u hu;unfold dD at ih ⊢;rw [List.flatMap_cons,List.getElem?_append_right (by show 5<=_;omega),show (k+1)*5+j-y.cells.length=k*5+j by show _-5=_;omega];exact ih
structure eX (w:World) (B:Nat) (A:Option Addr) (c:Nat) (L:List CX):Prop where
 row:w.ownsRow B 117 5 (.slice A L.length c) L.length (dD L)
 key:∀ x∈L,bK w B x.ka x.kc x.c.key
 val:∀ x∈L,bK w B x.va x.vc x.c.val
theorem eX.below {w w':World} {B:Nat} {A:Option Addr} {c:Nat} {L:List CX} (h:eX w B A c L) (hb:Below w.heap.size w w'):eX w' B A c L :=
 ⟨eO h.row hb,fun x hx=>(h.key x hx).below hb,fun x hx=>(h.val x hx).below hb⟩
theorem eX.at_ {w:World} {B:Nat} {A:Option Addr} {c:Nat} {L:List CX} (h:eX w B A c L):bf w w.heap.size A L:=by
 refine ⟨?_,fun x hx=>(h.key x hx).rd,fun x hx=>(h.val x hx).rd⟩
 rcases Nat.eq_zero_or_pos L.length with h0 | h0
 ·exact .inl (List.length_eq_zero_iff.1 h0)
 ·right
  rcases h.row.2 with ⟨e1,e2⟩ | ⟨g,cap,cur,e1,e2,e3,r⟩
  ·omega
  ·simp only [Value.slice.injEq] at e1;obtain ⟨ad,e4,hlt,hc⟩:=(Reads.of_own h.row).2 h0;have eA:A=some ⟨g,0,none⟩:=e1.1;rw [eA] at e4
   cases e4
   refine ⟨g,0,eA,hlt,fun k x hx j u hu=>?_⟩;have:=hc _ u (pG L k x hx j u hu);rw [Nat.zero_add];unfold Addr.add at this
   split at this
   ·rename_i h9;rw [h9];exact this
   ·simpa using this
theorem r7 (a b:Value) (W:World):(Instr.field 191 (.agg #[a,b]) 1).run Tryz.prog W=.ok b W:=by rfl
theorem CP {b:List UInt8}:∀ (n i:Nat) (t:Nat->Bool),uH b n i t=true->∀ j,i<=j->j<i+n->qY b j+ow b j<=243/\ow b j<=78
 | 0,i,t,_,j,h1,h2=>absurd h2 (by omega)
 | n+1,i,t,h,j,h1,h2=>by
  unfold uH at h;simp only [Bool.and_eq_true,decide_eq_true_eq] at h;by_cases e:j=i
  ·subst e;exact ⟨h.1.1.1.2,h.1.1.2⟩
  ·exact CP n (i+1) _ h.2 j (by omega) (by omega)
theorem r8 {b:List UInt8} {l:List (List UInt8)} (h:du b=some l):l=(List.range (b.getD 0 0).toNat).map (cellS b)/\2+2*(b.getD 0 0).toNat<=243/\∀ j,j<(b.getD 0 0).toNat->qY b j+ow b j<=243/\ow b j<=78:=by
 unfold du at h
 split at h
 ·rename_i hh
  cases h
  exact ⟨rfl,hh.2.1,fun j hj=>CP _ 0 _ hh.2.2.2.2 j (zL _) (by omega)⟩
 ·cases h
theorem jd {kind:Int}:∀ {l:List (List UInt8)} {j:Nat} {x:List UInt8},l[j]?=some x->gO kind x=none->dz kind l=none
 | [],j,x,h,_=>by simp at h
 | y::l,0,x,h,hx=>by
  simp only [List.getElem?_cons_zero,Option.some.injEq] at h;subst h;unfold dz;rw [hx]
 | y::l,j+1,x,h,hx=>by
  rw [List.getElem?_cons_succ] at h;unfold dz;rw [jd h hx]
  split <;> rfl
theorem je {kind:Int}:∀ {l:List (List UInt8)} {r:List PC},l.map (gO kind)=r.map some->dz kind l=some r
 | [],[],_=>rfl
 | [],_::_,h=>by simp at h
 | _::_,[],h=>by simp at h
 | y::l,c::r,h=>by
  simp only [List.map_cons,List.cons.injEq] at h;unfold dz;rw [h.1,je h.2]
def kQ (g:Option (List PC)) (B:Nat) (e:Ending) (w':World):Prop:=match g with
 | none=>e=.returned (.tuple #[.slice none 0 0,.bool false])
 | some l=>∃ (L:List CX) (A:Option Addr) (c:Nat),L.map CX.c=l/\e=.returned (.tuple #[.slice A L.length c,.bool true])/\eX w' B A c L
theorem cx {W W':World} {base base' e' s' n':Nat} {v':Value} {ys:List Value} {A:Option Addr} {c:Nat} {b:List UInt8} (h:bK W base A c b) (hI:W.ownsRow base' e' s' v' n' ys) (hne:5≠e') (hg:W.grownBy W' v'.ownBlock):bK W' base A c b:=AP h hI hne hg
theorem xC {B:Nat} (kind:Int) (a:Addr) (b:List UInt8) (w:World) (hB:B<=w.heap.size) (hr:Reads w B 1 (some a) b.length (bl b)) (hl:b.length=243) (hp:du b=none) :
 Calls Tryz.prog 80 #[.int .i64 kind,.slice (some a) 243 243] w fun e w'=>e=.returned (.tuple #[.slice none 0 0,.bool false])/\Below w.heap.size w w':=by
 have hP:=mP a 243 b w hB hr hl;unfold pu at hP;rw [hp] at hP;simp only [Option.isSome_none,Bool.false_eq_true,if_false] at hP;go_enter Tryz.func80,Tryz.ntmps80
 go_wp2_with (first
  | (go_at_call 110;refine hP.mono ?_;rintro e w2 ⟨rfl,hb2⟩))
 go_ret2;exact ⟨rfl,hb2⟩
theorem xD {B:Nat} (kind:Int) (a:Addr) (b:List UInt8) (w:World) (hB:B<=w.heap.size) (hr:Reads w B 1 (some a) b.length (bl b)) (hl:b.length=243) {lst:List (List UInt8)} (hp:du b=some lst) (hleaf:decide (kind=3)=true) :
 Calls Tryz.prog 80 #[.int .i64 kind,.slice (some a) 243 243] w fun e w'=>kQ (dz kind lst) w.heap.size e w'/\Below w.heap.size w w':=by
 have hP:=mP a 243 b w hB hr hl;have hK:=fun W=>bT kind W;obtain ⟨hlst,h2,hat⟩:=r8 hp;unfold pu at hP;rw [hp] at hP;simp only [Option.isSome_some,if_true] at hP;rw [hleaf] at hK;unfold aO at hK;rw [show dW true=121 from rfl] at hK;have hfl:=r7 (.func (.func (cY true)) #[] #[]) (.func (.func 121) #[] #[]);have hL:=fun {W s} (h:SB W s b)=>cX h
 obtain ⟨n,HN⟩:∃ n,Hid ((b.getD 0 0).toNat=n):=⟨_,lH rfl⟩
 have hn8:n<256:=by rw [<-HN.out];exact (b.getD 0 0).toNat_lt
 rw [HN.out] at hL hlst h2 hat;have HP:=lH (aI hlst hat);clear hlst hat hr hp;go_enter Tryz.func80,Tryz.ntmps80
 go_wp2_with (first
  | (go_at_call 111;refine (hL (hS.below hb3 hS.1.lt)).mono ?_;rintro e w4 ⟨rfl,h4⟩;subst h4)
  | (go_at_call 110;refine hP.mono ?_;rintro e w2 ⟨⟨s,rfl,hS,hs⟩,hb2⟩)
  | (go_at_call 85;refine (hK _).mono ?_;rintro e w3 ⟨rfl,hb3⟩))
 have hS3:=hS.below hb3 hS.1.lt;have hb23:=hb2.trans (hb3.mono hb2.size);clear hb2 hb3 hS hK hP hL hfl
 have hnl:lst.length=n:=by rw [HP.out.1,List.length_map,List.length_range]
 have hcG:∀ x,gO kind x=cG true x:=fun x=>by
  unfold gO
  first
   | (rw [if_pos (of_decide_eq_true hleaf)];rfl)
   | (rw [if_neg (of_decide_eq_false hleaf)];rfl)
 go_loopw [8,25] (fun l i wr=>∃ (k:Nat) (L:List CX) (A:Option Addr) (c:Nat),l=.slice A L.length c/\i=.int .i64 k/\k<=n/\L.length=k/\(lst.take k).map (gO kind)=(L.map CX.c).map some/\eX wr w.heap.size A c L/\SB wr s b/\Below w.heap.size w wr) (fun _ i _=>n-(intOf i).toNat)
 case atStart=>exact ⟨0,[],none,0,rfl,rfl,zL _,rfl,rfl,⟨World.ownsRow_nil _ _ _ _,fun x hx=>absurd hx (List.not_mem_nil),fun x hx=>absurd hx (List.not_mem_nil)⟩,hS3,hb23⟩
 case round =>
  clear hS3 hb23;obtain ⟨k,L,A,c,rfl,rfl,hk,hLk,hLm,hCO,hS,hb⟩:=hrel
  obtain ⟨wo,rfl⟩:∃ wo,wo=wr:=⟨wr,rfl⟩
  have HLM:=lH (aI hLk hLm);clear hLk hLm;by_cases hlt:k<n
  ·have d1:decide (k<n)=true:=dT hlt;have d2:decide ((k:Int)<(n:Int))=true:=dT (by omega);have hC:=fun (W:World) (hW:SB W s b)=>rW hW k (by rw [HN.out];exact hlt) (by rw [HN.out];exact h2) (HP.out.2 k hlt).1
   obtain ⟨cb,HCB⟩:∃ x,Hid (cellS b k=x):=⟨_,lH rfl⟩
   rw [HCB.out] at hC
   go_wp2_with (first
    | (go_at_call 112;refine (hC _ hS).mono ?_))
   rintro e w6 ⟨A6,c6,rfl,ho6,hb6⟩
   have hcap:cb.length<=c6:=by
    rcases Nat.eq_zero_or_pos cb.length with h0 | h0
    ·omega
    ·obtain ⟨g',c',e',hc',_⟩:=iu ho6 h0;simp only [Value.slice.injEq] at e';omega
   have hcl:cb.length<=1000:=by rw [<-HCB.out];unfold cellS;rw [lK];have:=(HP.out.2 k hlt).2;omega
   have hG:=vx true A6 c6 cb w6 (nR _) (Reads.of_own ho6) hcap hcl;rw [show dW true=121 from rfl] at hG;unfold kw at hG
   have hLk:lst[k]?=some cb:=by rw [HP.out.1,List.getElem?_map,List.getElem?_range hlt,<-HCB.out];rfl
   have hgk:=hcG cb
   cases hcg:cG true cb with
   | none =>
    rw [hcg] at hG hgk;have hnone:dz kind lst=none:=jd hLk hgk;have HNO:=lH hnone;clear hnone hLk hgk hcg
    go_wp2_with (first
     | (go_at_call 121;refine hG.mono ?_))
    rintro e w7 ⟨rfl,hb7⟩;unfold cellV
    obtain ⟨w8,hw8⟩:∃ w8,w8=w7.alloc (.cells #[.slice none 0 0,.int .i64 0,.slice none 0 0,.int .u32 0,.int .u32 0] 117):=⟨_,rfl⟩
    have hb8:Below w7.heap.size w7 w8:=by rw [hw8];exact (bR _ _).alloc (nR _) _
    have HW8:=lH hw8;clear hw8;go_wp2;go_ret2;have hb67:=(hb.trans (hb6.mono hb.size)).trans (hb7.mono (nT hb.size hb6.size));rw [HNO.out];unfold kQ
    first
     | exact ⟨rfl,hb67⟩
     | exact ⟨rfl,hb67.alloc hb67.size _⟩
   | some p =>
    rw [hcg] at hG hgk;have HGK:=lH (aI hLk hgk);clear hLk hgk hcg
    go_wp2_with (first
     | (go_at_call 121;refine hG.mono ?_))
    rintro e w7 ⟨⟨y,hy,rfl,hyk,hyv⟩,hb7⟩;subst hy;unfold CX.val cellV
    obtain ⟨w8,hw8⟩:∃ w8,w8=w7.alloc (.cells #[.slice y.ka y.c.key.length y.kc,.int .i64 y.c.size,.slice y.va y.c.val.length y.vc,.int .u32 (y.c.over:Nat),.int .u32 (y.c.kid:Nat)] 117):=⟨_,rfl⟩
    have hb8:Below w7.heap.size w7 w8:=by rw [hw8];exact (bR _ _).alloc (nR _) _
    have Z8:aa w8 w7.heap.size 117 y.cells.toArray:=by rw [hw8];exact aa.new _ _ _
    obtain ⟨w9,hw9⟩:∃ w9,w9=w8.alloc (.cells #[.slice y.ka y.c.key.length y.kc,.int .i64 y.c.size,.slice y.va y.c.val.length y.vc,.int .u32 (y.c.over:Nat),.int .u32 (y.c.kid:Nat)] 117):=⟨_,rfl⟩
    have hs8:w8.heap.size=w7.heap.size+1:=by rw [hw8];simp
    have hb9:Below w8.heap.size w8 w9:=by rw [hw9];exact (bR _ _).alloc (nR _) _
    have Z9:aa w9 w8.heap.size 117 y.cells.toArray:=by rw [hw9];exact aa.new _ _ _
    have e5:dD [y]=y.cells:=by simp [dD]
    have hrn:Reads w9 w9.heap.size 5 (some ⟨w7.heap.size+1,0,none⟩) 1 (dD [y]):=by rw [e5,<-hs8];exact fy Z9 rfl
    have hCO9:=(((hCO.below hb6).below hb7).below hb8).below hb9;clear hs8;have HW8:=lH hw8;have HW9:=lH hw9;clear hw8 hw9
    go_wp2_with (first
     | (rw [<-HW8.out,<-HW9.out];refine mH TC rfl rfl w.heap.size rfl hCO9.row rfl hrn (pF _) (by have:=HLM.out.1;omega) (nT hb.size (nT hb6.size (nT hb7.size (nT hb8.size hb9.size)))) (k:=(L++[y]).length) (by simp) (pE _ _) ?_;intro A7 c7 w10 ho10 hg10 hob10))
    have hb69:Below wo.heap.size wo w9:=((hb6.trans (hb7.mono hb6.size)).trans (hb8.mono (nT hb6.size hb7.size))).trans (hb9.mono (nT hb6.size (nT hb7.size hb8.size)));have hb9w:Below w.heap.size w w9:=hb.trans (hb69.mono hb.size);have hb10:Below w.heap.size w w10:=hb9w.trans (jc hg10 hb9w.size (fun ad e=>by subst e;exact (hCO9.row.lt ad.block rfl).1));have hS9:=hS.below hb69 hS.1.lt
    have hS10:SB w10 s b:=by
     refine ⟨?_,hS9.2⟩;refine (hg10.block s hS9.1.lt fun eg=>?_).trans hS9.1
     rcases hCO9.row.2 with ⟨h0,_⟩ | ⟨g',cap',cur',e1',_,e3',_⟩
     ·rw [h0] at eg;cases eg
     ·rw [e1'] at eg
      have e9:s=g':=by simpa [Value.ownBlock] using eg
      subst e9;have:=hS9.1.symm.trans e3'
      injection this with this
      injection this with _ e4 _
      exact absurd e4 (by decide)
    have hy1:bK w9 w.heap.size y.ka y.kc y.c.key:=((hyk.lo (nT hb.size hb6.size)).below hb8).below hb9;have hy2:bK w9 w.heap.size y.va y.vc y.c.val:=((hyv.lo (nT hb.size hb6.size)).below hb8).below hb9
    have hCO10:eX w10 w.heap.size A7 c7 (L++[y]):=by
     refine ⟨ho10,fun x hx=>?_,fun x hx=>?_⟩
     ·rcases List.mem_append.1 hx with hx | hx
      ·exact cx (hCO9.key x hx) hCO9.row (by decide) hg10
      ·simp only [List.mem_singleton] at hx;subst hx;exact cx hy1 hCO9.row (by decide) hg10
     ·rcases List.mem_append.1 hx with hx | hx
      ·exact cx (hCO9.val x hx) hCO9.row (by decide) hg10
      ·simp only [List.mem_singleton] at hx;subst hx;exact cx hy2 hCO9.row (by decide) hg10
    have hm10:(lst.take (k+1)).map (gO kind)=((L++[y]).map CX.c).map some:=by
     rw [List.take_add_one,HGK.out.1,List.map_append,HLM.out.2,List.map_append,List.map_append];simp [HGK.out.2]
    clear hCO9 hCO hS9 hy1 hy2 ho10 hrn;refine ⟨⟨k+1,L++[y],A7,c7,by rw [lQ];rfl,by go_num,by omega,by rw [lQ,HLM.out.1];rfl,hm10,hCO10,hS10,hb10⟩,?_⟩;simp [intOf];omega
  ·have d1:decide (k<n)=false:=dF hlt;have d2:decide ((k:Int)<(n:Int))=false:=dF (by omega)
   obtain rfl:k=n:=by omega
   go_wp2;go_ret2;rw [je (r:=L.map CX.c) (by have:=HLM.out.2;rwa [List.take_of_length_le (by omega)] at this)];exact ⟨⟨L,A,c,rfl,rfl,hCO⟩,hb⟩
theorem vy {B:Nat} (kind:Int) (a:Addr) (b:List UInt8) (w:World) (hB:B<=w.heap.size) (hr:Reads w B 1 (some a) b.length (bl b)) (hl:b.length=243) {lst:List (List UInt8)} (hp:du b=some lst) (hleaf:decide (kind=3)=false) :
 Calls Tryz.prog 80 #[.int .i64 kind,.slice (some a) 243 243] w fun e w'=>kQ (dz kind lst) w.heap.size e w'/\Below w.heap.size w w':=by
 have hP:=mP a 243 b w hB hr hl;have hK:=fun W=>bT kind W;obtain ⟨hlst,h2,hat⟩:=r8 hp;unfold pu at hP;rw [hp] at hP;simp only [Option.isSome_some,if_true] at hP;rw [hleaf] at hK;unfold aO at hK;rw [show dW false=123 from rfl] at hK;have hfl:=r7 (.func (.func (cY false)) #[] #[]) (.func (.func 123) #[] #[]);have hL:=fun {W s} (h:SB W s b)=>cX h
 obtain ⟨n,HN⟩:∃ n,Hid ((b.getD 0 0).toNat=n):=⟨_,lH rfl⟩
 have hn8:n<256:=by rw [<-HN.out];exact (b.getD 0 0).toNat_lt
 rw [HN.out] at hL hlst h2 hat;have HP:=lH (aI hlst hat);clear hlst hat hr hp;go_enter Tryz.func80,Tryz.ntmps80
 go_wp2_with (first
  | (go_at_call 111;refine (hL (hS.below hb3 hS.1.lt)).mono ?_;rintro e w4 ⟨rfl,h4⟩;subst h4)
  | (go_at_call 110;refine hP.mono ?_;rintro e w2 ⟨⟨s,rfl,hS,hs⟩,hb2⟩)
  | (go_at_call 85;refine (hK _).mono ?_;rintro e w3 ⟨rfl,hb3⟩))
 have hS3:=hS.below hb3 hS.1.lt;have hb23:=hb2.trans (hb3.mono hb2.size);clear hb2 hb3 hS hK hP hL hfl
 have hnl:lst.length=n:=by rw [HP.out.1,List.length_map,List.length_range]
 have hcG:∀ x,gO kind x=cG false x:=fun x=>by
  unfold gO
  first
   | (rw [if_pos (of_decide_eq_true hleaf)];rfl)
   | (rw [if_neg (of_decide_eq_false hleaf)];rfl)
 go_loopw [8,25] (fun l i wr=>∃ (k:Nat) (L:List CX) (A:Option Addr) (c:Nat),l=.slice A L.length c/\i=.int .i64 k/\k<=n/\L.length=k/\(lst.take k).map (gO kind)=(L.map CX.c).map some/\eX wr w.heap.size A c L/\SB wr s b/\Below w.heap.size w wr) (fun _ i _=>n-(intOf i).toNat)
 case atStart=>exact ⟨0,[],none,0,rfl,rfl,zL _,rfl,rfl,⟨World.ownsRow_nil _ _ _ _,fun x hx=>absurd hx (List.not_mem_nil),fun x hx=>absurd hx (List.not_mem_nil)⟩,hS3,hb23⟩
 case round =>
  clear hS3 hb23;obtain ⟨k,L,A,c,rfl,rfl,hk,hLk,hLm,hCO,hS,hb⟩:=hrel
  obtain ⟨wo,rfl⟩:∃ wo,wo=wr:=⟨wr,rfl⟩
  have HLM:=lH (aI hLk hLm);clear hLk hLm;by_cases hlt:k<n
  ·have d1:decide (k<n)=true:=dT hlt;have d2:decide ((k:Int)<(n:Int))=true:=dT (by omega);have hC:=fun (W:World) (hW:SB W s b)=>rW hW k (by rw [HN.out];exact hlt) (by rw [HN.out];exact h2) (HP.out.2 k hlt).1
   obtain ⟨cb,HCB⟩:∃ x,Hid (cellS b k=x):=⟨_,lH rfl⟩
   rw [HCB.out] at hC
   go_wp2_with (first
    | (go_at_call 112;refine (hC _ hS).mono ?_))
   rintro e w6 ⟨A6,c6,rfl,ho6,hb6⟩
   have hcap:cb.length<=c6:=by
    rcases Nat.eq_zero_or_pos cb.length with h0 | h0
    ·omega
    ·obtain ⟨g',c',e',hc',_⟩:=iu ho6 h0;simp only [Value.slice.injEq] at e';omega
   have hcl:cb.length<=1000:=by rw [<-HCB.out];unfold cellS;rw [lK];have:=(HP.out.2 k hlt).2;omega
   have hG:=vx false A6 c6 cb w6 (nR _) (Reads.of_own ho6) hcap hcl;rw [show dW false=123 from rfl] at hG;unfold kw at hG
   have hLk:lst[k]?=some cb:=by rw [HP.out.1,List.getElem?_map,List.getElem?_range hlt,<-HCB.out];rfl
   have hgk:=hcG cb
   cases hcg:cG false cb with
   | none =>
    rw [hcg] at hG hgk;have hnone:dz kind lst=none:=jd hLk hgk;have HNO:=lH hnone;clear hnone hLk hgk hcg
    go_wp2_with (first
     | (go_at_call 123;refine hG.mono ?_))
    rintro e w7 ⟨rfl,hb7⟩;unfold cellV
    obtain ⟨w8,hw8⟩:∃ w8,w8=w7.alloc (.cells #[.slice none 0 0,.int .i64 0,.slice none 0 0,.int .u32 0,.int .u32 0] 117):=⟨_,rfl⟩
    have hb8:Below w7.heap.size w7 w8:=by rw [hw8];exact (bR _ _).alloc (nR _) _
    have HW8:=lH hw8;clear hw8;go_wp2;go_ret2;have hb67:=(hb.trans (hb6.mono hb.size)).trans (hb7.mono (nT hb.size hb6.size));rw [HNO.out];unfold kQ
    first
     | exact ⟨rfl,hb67⟩
     | exact ⟨rfl,hb67.alloc hb67.size _⟩
   | some p =>
    rw [hcg] at hG hgk;have HGK:=lH (aI hLk hgk);clear hLk hgk hcg
    go_wp2_with (first
     | (go_at_call 123;refine hG.mono ?_))
    rintro e w7 ⟨⟨y,hy,rfl,hyk,hyv⟩,hb7⟩;subst hy;unfold CX.val cellV
    obtain ⟨w8,hw8⟩:∃ w8,w8=w7.alloc (.cells #[.slice y.ka y.c.key.length y.kc,.int .i64 y.c.size,.slice y.va y.c.val.length y.vc,.int .u32 (y.c.over:Nat),.int .u32 (y.c.kid:Nat)] 117):=⟨_,rfl⟩
    have hb8:Below w7.heap.size w7 w8:=by rw [hw8];exact (bR _ _).alloc (nR _) _
    have Z8:aa w8 w7.heap.size 117 y.cells.toArray:=by rw [hw8];exact aa.new _ _ _
    obtain ⟨w9,hw9⟩:∃ w9,w9=w8.alloc (.cells #[.slice y.ka y.c.key.length y.kc,.int .i64 y.c.size,.slice y.va y.c.val.length y.vc,.int .u32 (y.c.over:Nat),.int .u32 (y.c.kid:Nat)] 117):=⟨_,rfl⟩
    have hs8:w8.heap.size=w7.heap.size+1:=by rw [hw8];simp
    have hb9:Below w8.heap.size w8 w9:=by rw [hw9];exact (bR _ _).alloc (nR _) _
    have Z9:aa w9 w8.heap.size 117 y.cells.toArray:=by rw [hw9];exact aa.new _ _ _
    have e5:dD [y]=y.cells:=by simp [dD]
    have hrn:Reads w9 w9.heap.size 5 (some ⟨w7.heap.size+1,0,none⟩) 1 (dD [y]):=by rw [e5,<-hs8];exact fy Z9 rfl
    have hCO9:=(((hCO.below hb6).below hb7).below hb8).below hb9;clear hs8;have HW8:=lH hw8;have HW9:=lH hw9;clear hw8 hw9
    go_wp2_with (first
     | (rw [<-HW8.out,<-HW9.out];refine mH TC rfl rfl w.heap.size rfl hCO9.row rfl hrn (pF _) (by have:=HLM.out.1;omega) (nT hb.size (nT hb6.size (nT hb7.size (nT hb8.size hb9.size)))) (k:=(L++[y]).length) (by simp) (pE _ _) ?_;intro A7 c7 w10 ho10 hg10 hob10))
    have hb69:Below wo.heap.size wo w9:=((hb6.trans (hb7.mono hb6.size)).trans (hb8.mono (nT hb6.size hb7.size))).trans (hb9.mono (nT hb6.size (nT hb7.size hb8.size)));have hb9w:Below w.heap.size w w9:=hb.trans (hb69.mono hb.size);have hb10:Below w.heap.size w w10:=hb9w.trans (jc hg10 hb9w.size (fun ad e=>by subst e;exact (hCO9.row.lt ad.block rfl).1));have hS9:=hS.below hb69 hS.1.lt
    have hS10:SB w10 s b:=by
     refine ⟨?_,hS9.2⟩;refine (hg10.block s hS9.1.lt fun eg=>?_).trans hS9.1
     rcases hCO9.row.2 with ⟨h0,_⟩ | ⟨g',cap',cur',e1',_,e3',_⟩
     ·rw [h0] at eg;cases eg
     ·rw [e1'] at eg
      have e9:s=g':=by simpa [Value.ownBlock] using eg
      subst e9;have:=hS9.1.symm.trans e3'
      injection this with this
      injection this with _ e4 _
      exact absurd e4 (by decide)
    have hy1:bK w9 w.heap.size y.ka y.kc y.c.key:=((hyk.lo (nT hb.size hb6.size)).below hb8).below hb9;have hy2:bK w9 w.heap.size y.va y.vc y.c.val:=((hyv.lo (nT hb.size hb6.size)).below hb8).below hb9
    have hCO10:eX w10 w.heap.size A7 c7 (L++[y]):=by
     refine ⟨ho10,fun x hx=>?_,fun x hx=>?_⟩
     ·rcases List.mem_append.1 hx with hx | hx
      ·exact cx (hCO9.key x hx) hCO9.row (by decide) hg10
      ·simp only [List.mem_singleton] at hx;subst hx;exact cx hy1 hCO9.row (by decide) hg10
     ·rcases List.mem_append.1 hx with hx | hx
      ·exact cx (hCO9.val x hx) hCO9.row (by decide) hg10
      ·simp only [List.mem_singleton] at hx;subst hx;exact cx hy2 hCO9.row (by decide) hg10
    have hm10:(lst.take (k+1)).map (gO kind)=((L++[y]).map CX.c).map some:=by
     rw [List.take_add_one,HGK.out.1,List.map_append,HLM.out.2,List.map_append,List.map_append];simp [HGK.out.2]
    clear hCO9 hCO hS9 hy1 hy2 ho10 hrn;refine ⟨⟨k+1,L++[y],A7,c7,by rw [lQ];rfl,by go_num,by omega,by rw [lQ,HLM.out.1];rfl,hm10,hCO10,hS10,hb10⟩,?_⟩;simp [intOf];omega
  ·have d1:decide (k<n)=false:=dF hlt;have d2:decide ((k:Int)<(n:Int))=false:=dF (by omega)
   obtain rfl:k=n:=by omega
   go_wp2;go_ret2;rw [je (r:=L.map CX.c) (by have:=HLM.out.2;rwa [List.take_of_length_le (by omega)] at this)];exact ⟨⟨L,A,c,rfl,rfl,hCO⟩,hb⟩
def xE (kind:Int) (b:List UInt8):Option (List PC):=match du b with
 | none=>none
 | some l=>dz kind l
theorem AQ {B:Nat} (kind:Int) (a:Addr) (b:List UInt8) (w:World) (hB:B<=w.heap.size) (hr:Reads w B 1 (some a) b.length (bl b)) (hl:b.length=243) :
 Calls Tryz.prog 80 #[.int .i64 kind,.slice (some a) 243 243] w fun e w'=>kQ (xE kind b) w.heap.size e w'/\Below w.heap.size w w':=by
 unfold xE
 cases hp:du b with
 | none=>exact xC kind a b w hB hr hl hp
 | some lst =>
  cases h:decide (kind=3) with
  | true=>exact xD kind a b w hB hr hl hp h
  | false=>exact vy kind a b w hB hr hl hp h
theorem AU {kind:Int} {b:List UInt8} {c:PC} (h:gO kind b=some c):c.fit:=by
 unfold gO at h
 split at h
 ·exact Af h
 ·exact (wY h).2.2
theorem kR {kind:Int}:∀ {l:List (List UInt8)} {r:List PC},dz kind l=some r->(∀ c∈r,c.fit)/\r.length=l.length
 | [],r,h=>by
  unfold dz at h
  cases h
  exact ⟨fun c hc=>absurd hc (List.not_mem_nil),rfl⟩
 | b::l,r,h=>by
  unfold dz at h
  split at h
  ·cases h
  ·rename_i c hc
   split at h
   ·cases h
   ·rename_i r' hr
    cases h
    have ih:=kR hr
    exact ⟨fun x hx=>by
     rcases List.mem_cons.1 hx with rfl | hx
     ·exact AU hc
     ·exact ih.1 x hx,by rw [List.length_cons,List.length_cons,ih.2]⟩
theorem xF {B:Nat} (kind:Nat) (hk:kind=2\/kind=3) (lsn:Nat) (a:Addr) (b:List UInt8) (w:World) (hB:B<=w.heap.size) (hr:Reads w B 1 (some a) b.length (bl b)) (hl:b.length=243) :
 Calls Tryz.prog 56 #[.agg #[.int .i64 (kind:Nat),.int .u64 (lsn:Nat),.slice (some a) 243 243]] w fun e w'=>∃ x:NX,e=.returned (.tuple #[x.val,.bool (cT kind lsn b).isSome])/\(∀ n,cT kind lsn b=some n->x.n=n)/\aP w' w'.heap.size x/\dC w.heap.size x/\Below w.heap.size w w':=by
 have k1:((kind:Int)==1)=false:=by simp;omega
 have k4:((kind:Int)==4)=false:=by simp;omega
 have k5:((kind:Int)==5)=false:=by simp;omega
 have hRP:cT kind lsn b=match xE kind b with
  | none=>none
  | some c=>some ⟨kind,lsn,c,0,[],0,0,0,0⟩:=by
  unfold cT;rw [if_neg (by omega),if_neg (by omega),if_neg (by omega)];unfold xE
  cases du b <;> rfl
 have hfit:∀ l,xE kind b=some l->(∀ c∈l,c.fit)/\l.length<=120:=by
  intro l h;unfold xE at h
  cases hp:du b with
  | none=>rw [hp] at h;cases h
  | some ls =>
   rw [hp] at h;have:=kR h;exact ⟨this.1,by rw [this.2];exact oZ hp⟩
 have hC:=fun (W:World) (hW:Below w.heap.size w W)=>AQ (kind:Int) a b W (nT hB hW.size) (hr.below (hW.mono hB)) hl
 obtain ⟨cl,HCL⟩:∃ c,Hid (xE (kind:Int) b=c):=⟨_,lH rfl⟩
 rw [HCL.out] at hRP hC hfit
 obtain ⟨w1,hw1⟩:∃ w1,w1=(w.alloc (.cells #[.int .i64 (kind:Nat),.int .u64 (lsn:Nat),.slice (some a) 243 243] 133)).alloc (.cells #[.int .i64 (kind:Nat),.int .u64 (lsn:Nat),.slice none 0 0,.int .u32 0,.slice none 0 0,.int .u32 0,.int .u32 0,.int .u32 0,.int .u64 0] 95):=⟨_,rfl⟩
 have hwa:Below w.heap.size w (w.alloc (.cells #[.int .i64 (kind:Nat),.int .u64 (lsn:Nat),.slice (some a) 243 243] 133)):=(bR _ w).alloc (nR _) _
 have hb1:Below w.heap.size w w1:=by rw [hw1];exact hwa.alloc hwa.size _
 have hN1:aa w1 (w.heap.size+1) 95 #[.int .i64 (kind:Nat),.int .u64 (lsn:Nat),.slice none 0 0,.int .u32 0,.slice none 0 0,.int .u32 0,.int .u32 0,.int .u32 0,.int .u64 0]:=by rw [hw1];exact iW _ _ _ (by simp)
 have HC:=hC w1 hb1;have HW1:=lH hw1;clear hC hr hw1 hwa;rw [hRP];clear hRP;go_enter Tryz.func56,Tryz.ntmps56
 go_wp2_with (first
  | (rw [<-HW1.out];go_at_call 80;refine HC.mono ?_))
 rintro e w2 ⟨hR,hb2⟩;have hN2:=hN1.below hb2 hN1.lt;have hs1:w.heap.size+2<=w1.heap.size:=hN1.lt;have c22:w2.cell? ⟨w.heap.size+1,2,none⟩=some (.slice none 0 0):=hN2.cell 2;have f22:=hN2.frozen 2;have hb12:Below w.heap.size w w2:=hb1.trans (hb2.mono hb1.size)
 have fin:∀ (A:Option Addr) (L:List CX) (c:Nat),L.length<=120->(∀ y∈L,y.c.fit)->eX w2 w1.heap.size A c L->∀ w3,w3=(w2.setCell ⟨w.heap.size+1,2,none⟩ (.slice A L.length c)).setRow (w.heap.size+1) #[.int .i64 (kind:Nat),.int .u64 (lsn:Nat),.slice A L.length c,.int .u32 0,.slice none 0 0,.int .u32 0,.int .u32 0,.int .u32 0,.int .u64 0] ->
  aP w3 w3.heap.size ⟨kind,lsn,A,c,L,0,none,0,[],0,0,0,0⟩/\dC w.heap.size ⟨kind,lsn,A,c,L,0,none,0,[],0,0,0,0⟩/\Below w.heap.size w w3:=by
  rintro A L c hL hf hO w3 rfl
  have hfr:Fr (fun k=>k=w.heap.size+1) w2 ((w2.setCell ⟨w.heap.size+1,2,none⟩ (.slice A L.length c)).setRow (w.heap.size+1) #[.int .i64 (kind:Nat),.int .u64 (lsn:Nat),.slice A L.length c,.int .u32 0,.slice none 0 0,.int .u32 0,.int .u32 0,.int .u32 0,.int .u64 0]) :=
   ((Fr.refl (fun k=>k=w.heap.size+1) w2).setCell (p:=⟨w.heap.size+1,2,none⟩) (.inr rfl) _).trans (fS _ _ _)
  have hO':eX _ w1.heap.size A c L:=⟨oC hO.row hfr (fun ad e h=>by have:=jb hO.row ad e;omega),fun x hx=>(hO.key x hx).fr hfr (fun k hk=>by omega),fun x hx=>(hO.val x hx).fr hfr (fun k hk=>by omega)⟩
  refine ⟨⟨hO'.at_,Reads.none_,hf,by show L.length<=_;omega,zL _⟩,⟨fun ad e=>?_,fun ad e=>(by cases e),fun y hy ad e=>?_,fun y hy ad e=>?_⟩,hb12.trans (hfr.below (B:=w.heap.size) hb12.size (fun k hk=>by omega))⟩
  ·have:=jb hO.row ad e;omega
  ·have:=(hO.key y hy).ge ad e;omega
  ·have:=(hO.val y hy).ge ad e;omega
 cases cl with
 | none =>
  unfold kQ at hR;subst hR;have hN3:=hN2.set_ 2 (.slice none 0 0)
  go_wp2_with (first
   | (refine wpList_load_row rfl 95 _ rfl _ rfl _ _ _ _ hN3 Tryz.underlying95 rfl (by kernel_rfl) ?_)
   | (refine wpList_store_row rfl 95 _ _ rfl (w.heap.size+1) _ rfl rfl 95 _ hN3 (by kernel_rfl) rfl (by simp [Value.oneCell']) ?_))
  refine bodyPost_ret (rT rfl _ _ (w.heap.size+1) 95 _ (0,0) _ rfl (setRow_heap _ _ _ _ _ _ hN3) Tryz.underlying95 rfl (by kernel_rfl)) rfl ?_;have hfin:=fin none [] 0 (by decide) (fun y hy=>absurd hy (List.not_mem_nil)) ⟨World.ownsRow_nil _ _ _ _,fun x hx=>absurd hx (List.not_mem_nil),fun x hx=>absurd hx (List.not_mem_nil)⟩ _ rfl;exact ⟨⟨kind,lsn,none,0,[],0,none,0,[],0,0,0,0⟩,rfl,hfin⟩
 | some l =>
  unfold kQ at hR;obtain ⟨L,A,c,hLl,rfl,hO⟩:=hR;have hlf:=hfit l rfl;have hN3:=hN2.set_ 2 (.slice A L.length c)
  go_wp2_with (first
   | (refine wpList_load_row rfl 95 _ rfl _ rfl _ _ _ _ hN3 Tryz.underlying95 rfl (by kernel_rfl) ?_)
   | (refine wpList_store_row rfl 95 _ _ rfl (w.heap.size+1) _ rfl rfl 95 _ hN3 (by kernel_rfl) rfl (by simp [Value.oneCell']) ?_))
  refine bodyPost_ret (rT rfl _ _ (w.heap.size+1) 95 _ (0,0) _ rfl (setRow_heap _ _ _ _ _ _ hN3) Tryz.underlying95 rfl (by kernel_rfl)) rfl ?_;have hfin:=fin A L c (by rw [<-hLl,List.length_map] at hlf;exact hlf.2) (fun y hy=>hlf.1 _ (by rw [<-hLl];exact List.mem_map.2 ⟨y,hy,rfl⟩)) hO _ rfl;refine ⟨⟨kind,lsn,A,c,L,0,none,0,[],0,0,0,0⟩,rfl,?_,hfin⟩;unfold NX.n;rw [hLl]
theorem CQ (kind:Nat) (hk:kind=2\/kind=3) (lsn:Nat) (b:List UInt8):pp kind lsn b:=by
 intro B a w hB hr hl;exact xF kind hk lsn a b w hB hr hl
theorem AV (kind:Nat) (h1:1<=kind) (h5:kind<=5) (lsn:Nat) (b:List UInt8):pp kind lsn b:=by
 have:kind=1\/(kind=2\/kind=3)\/kind=4\/kind=5:=by omega
 rcases this with rfl | h | rfl | rfl
 ·exact EF lsn b
 ·exact CQ kind h lsn b
 ·exact ED lsn b
 ·exact EC lsn b
theorem pH {B:Nat} (A:Option Addr) (c:Nat) (b:List UInt8) (w:World) (hB:B<=w.heap.size) (hr:Reads w B 1 A b.length (bl b)) (hc:b.length<=c) :
 Calls Tryz.prog 36 #[.slice A b.length c] w fun e w'=>xo b w.heap.size e w w' :=
 F9 A c b w hB hr hc fun he=>by
  obtain ⟨_,_,h1,h5,_⟩:=rG he;exact AV _ h1 h5 _ _
theorem xG {X:Nat->Prop} {w:World} {T M:Nat} {t:PT} (h:TX X w T M t) (n:Nat) (hn:t.pages<=n) :
 Calls Tryz.prog 140 #[.pointer (some ⟨T,0,none⟩),.int .u32 (n:Nat)] w fun e w'=>e=.returned (.tuple #[.slice none 0 0,.int .i64 7])/\w'=w:=by
 obtain ⟨O,ck,src,h⟩:=h;have f3:w.cell? ⟨T,3,none⟩=some (.int .u32 (t.pages:Nat)):=h.blk.cell 3;have f6:w.cell? ⟨T,6,none⟩=some (.map (some M)):=h.blk.cell 6;have d1:decide ((t.pages:Int)<=(n:Int))=true:=dT (by omega);have d2:decide (t.pages<=n)=true:=dT hn;have HM:=lH h.map
 cases hk:look n O 0 with
 | none =>
  have HK:=lH hk;clear h hk;go_enter Tryz.func140,Tryz.ntmps140
  go_wp2_with (refine bq rfl (.tmp 15) (.tmp 16) rfl rfl rfl HM.out HK.out ?_)
  go_ret2;exact ⟨rfl,rfl⟩
 | some r =>
  obtain ⟨j,y⟩:=r;have HK:=lH hk;clear h hk;unfold KE.val at *;go_enter Tryz.func140,Tryz.ntmps140
  go_wp2_with (refine gT rfl (.tmp 15) (.tmp 16) rfl rfl rfl HM.out HK.out ?_)
  go_ret2;exact ⟨rfl,rfl⟩
def zb (t:PT):NX:=⟨1,t.lsn,none,0,[],0,none,0,[],t.root,t.pages,t.free,t.entries⟩
theorem xH {X:Nat->Prop} {w:World} {T M:Nat} {t:PT} (h:TX X w T M t) (ok:t.OK) (hc:t.changed=true) (hl:lookO 0 t.over=none) :
 Calls Tryz.prog 140 #[.pointer (some ⟨T,0,none⟩),.int .u32 0] w fun e w'=>∃ A c,e=.returned (.tuple #[.slice A 256 c,.int .i64 0])/\w'.ownsRow w.heap.size 5 1 (.slice A 256 c) 256 (bl (Ai t.head))/\Below w.heap.size w w':=by
 obtain ⟨O,ck,src,h⟩:=h;have h0:=ok.head;have f3:w.cell? ⟨T,3,none⟩=some (.int .u32 (t.pages:Nat)):=h.blk.cell 3;have f6:w.cell? ⟨T,6,none⟩=some (.map (some M)):=h.blk.cell 6
 have f7:w.cell? ⟨T,7,none⟩=some (.bool true):=by rw [<-hc];exact h.blk.cell 7
 have hBl:=h.blk
 have kS:Hid (∀ W,Below w.heap.size w W->(W.cell? ⟨T,1,none⟩=some (.int .u64 (t.lsn:Nat))/\W.cell? ⟨T,2,none⟩=some (.int .u32 (t.root:Nat))/\W.cell? ⟨T,3,none⟩=some (.int .u32 (t.pages:Nat))/\W.cell? ⟨T,4,none⟩=some (.int .u32 (t.free:Nat))/\W.cell? ⟨T,5,none⟩=some (.int .u64 (t.entries:Nat)))):=lH fun W hW=>⟨(hBl.below hW hBl.lt).cell 1,(hBl.below hW hBl.lt).cell 2,(hBl.below hW hBl.lt).cell 3,(hBl.below hW hBl.lt).cell 4,(hBl.below hW hBl.lt).cell 5⟩
 clear hBl;have d1:decide ((t.pages:Int)<=0)=false:=dF (by omega);have d2:decide (t.pages<=0)=false:=dF (by omega)
 have z0:(t.pages==0)=false:=by simp;omega
 have z1:¬ t.pages=0:=by omega
 have z2:decide (t.pages=0)=false:=dF (by omega);have HM:=lH h.map;have hP:=EA (zb t) w.drew (za rfl rfl) (nR _) ok.fit;rw [show putE (zb t).n=0 from ok.putE,show (zb t).n=t.head from rfl] at hP;unfold zb NX.val aJ at hP;dsimp only [List.length_nil] at hP;simp only [Int.natCast_zero] at hP
 have hk:look 0 O 0=none:=by
  rw [h.over,jH 0 O 0] at hl
  cases hk:look 0 O 0 with
  | none=>rfl
  | some r=>rw [hk] at hl;cases hl
 have HK:=lH hk;have HP:=lH hP;clear h hk hP hl ok h0;go_enter Tryz.func140,Tryz.ntmps140
 go_wp2_with (refine bq rfl (.tmp 15) (.tmp 16) rfl rfl rfl HM.out HK.out ?_)
 refine bB 12 (fun W0=>W0.cell? ⟨T,1,none⟩=some (.int .u64 (t.lsn:Nat))/\W0.cell? ⟨T,2,none⟩=some (.int .u32 (t.root:Nat))/\W0.cell? ⟨T,3,none⟩=some (.int .u32 (t.pages:Nat))/\W0.cell? ⟨T,4,none⟩=some (.int .u32 (t.free:Nat))/\W0.cell? ⟨T,5,none⟩=some (.int .u64 (t.entries:Nat))) (kS.out _ ((bR _ w).drew)) (fun hHeld hTl=>?_);refine ae 0 hTl hHeld (fun hTl=>?_)
 try simp only [pT]
 refine ae 1 hTl hHeld (fun hTl=>?_)
 try simp only [pT]
 refine ae 2 hTl hHeld (fun hTl=>?_)
 try simp only [pT]
 refine ae 3 hTl hHeld (fun hTl=>?_)
 try simp only [pT]
 refine ae 4 hTl hHeld (fun hTl=>?_)
 try simp only [pT]
 refine ae 5 hTl hHeld (fun hTl=>?_)
 try simp only [pT]
 refine ae 6 hTl hHeld (fun hTl=>?_)
 try simp only [pT]
 refine ae 7 hTl hHeld (fun hTl=>?_)
 try simp only [pT]
 refine ae 8 hTl hHeld (fun hTl=>?_)
 try simp only [pT]
 have hTl2:=hTl.step 9 (by kernel_rfl) (by decide);clear hTl;refine sP 9 HP.out ?_
 rintro e w5 ⟨A,m,c,e5,ho5,hb5'⟩;subst e5;obtain ⟨rfl,ho⟩:=ho5 trivial;have hb5:Below w.heap.size w w5:=(bR _ w).drew.trans hb5'
 refine ⟨_,rfl,(fun _=>kS.out _ hb5),?_⟩
 try simp only [pT]
 have hTl:=hTl2;clear hTl2;have hHeld:=kS.out _ hb5;refine ae 10 hTl hHeld (fun hTl=>?_)
 try simp only [pT]
 refine ae 11 hTl hHeld (fun hTl=>?_)
 try simp only [pT]
 clear hTl;refine az 12 (fun K hK=>?_);go_simp;refine hK.out _ _ ?_;clear hK K
 try simp only [pT]
 refine az 13 (fun K hK=>?_);go_simp;refine hK.out _ _ ?_;clear hK K
 try simp only [pT]
 refine cW ?_ _;go_wp2;go_ret2;exact ⟨A,c,rfl,ho,hb5⟩
def zd:ByteArray:=⟨#[112,97,103,101]⟩
def Hw (n:Nat):ByteArray:=⟨(Lib.decDigits n).toArray⟩
theorem ix {B:Nat} (A:Option Addr) (c:Nat) (ps:List Pt) (n:Nat) (p:Pt) (hp:ps[n]?=some p) (w:World) (hB:B<=w.heap.size) (hr:Reads w w.heap.size 1 A ps.length (ps.map Pt.val)) (hl:ps.length<=3000000) (hrp:Reads w B 1 p.A p.b.length (bl p.b)) (hlp:p.b.length<=3000000) :
 Calls Tryz.prog 208 #[.agg #[.slice A ps.length c],.int .u32 (n:Nat)] w fun e w'=>∃ A' c',e=.returned (.tuple #[.slice A' p.b.length c',.nilIface])/\bK w' w.heap.size A' c' p.b/\Below w.heap.size w w':=by
 have hn:n<ps.length:=(lS.1 hp).1;obtain ⟨a,rfl,ha,hcs⟩:=hr.2 (by omega);have hcn:w.cell? (a.add n)=some p.val:=hcs n p.val (by rw [List.getElem?_map,hp];rfl);unfold Pt.val at hcn
 have u1:IntKind.u64.wrap (n:Int)=(n:Int):=by rw [IntKind.wrap_u64];omega
 have u2:IntKind.u64.wrap (ps.length:Int)=(ps.length:Int):=by rw [IntKind.wrap_u64];omega
 have d1:decide ((ps.length:Int)<=(n:Int))=false:=dF (by omega);have d2:decide (ps.length<=n)=false:=dF (by omega)
 have d3:(n:Int)<(ps.length:Int):=by omega
 have hCl:=fun W (hW:Below w.heap.size w W)=>cu p.A p.c p.b W (hrp.below (hW.mono hB)) (nT hB hW.size) (by omega);have HCL:=lH hCl;have hb1:Below w.heap.size w (w.alloc (.cells #[.slice (some a) ps.length c] 57)):=(bR _ _).alloc (nR _) _;have hcn1:(w.alloc (.cells #[.slice (some a) ps.length c] 57)).cell? (a.add n)=some (.slice p.A p.b.length p.c):=(hb1.cell (by rw [bV];exact ha)).trans hcn;clear hCl hcs hr hrp;go_enter Tryz.func208,Tryz.ntmps208
 go_wp2_with (first
  | (go_at_call 79;refine (HCL.out _ hb1).mono ?_;rintro e w2 ⟨A',c',rfl,ho,hb⟩))
 go_ret2;exact ⟨A',c',rfl,cj ho (by simp),hb1.trans (hb.mono hb1.size)⟩
theorem lL (A:Option Addr) (m c:Nat) (n:Nat) (hn32:n<4294967296) (hn:m<=n) (w:World) (htab:aH w) :
 Calls Tryz.prog 208 #[.agg #[.slice A m c],.int .u32 (n:Nat)] w fun e w'=>∃ v,e=.returned (.tuple #[.slice none 0 0,v])/\cm w.heap.size w' zd (Hw n) 7 v/\Below w.heap.size w w':=by
 have u1:IntKind.u64.wrap (n:Int)=(n:Int):=by rw [IntKind.wrap_u64];omega
 have u2:IntKind.u64.wrap (m:Int)=(m:Int):=by rw [IntKind.wrap_u64];omega
 have d1:decide ((m:Int)<=(n:Int))=true:=dT (by omega);have d2:decide (m<=n)=true:=dT (by omega);go_enter Tryz.func208,Tryz.ntmps208;have hb1:Below w.heap.size w (w.alloc (.cells #[.slice A m c] 57)):=(bR _ _).alloc (nR _) _;have hD:=pr n hn32 _ (aw htab hb1);have hF:=fun nm W=>jI zd nm 7 W;unfold zd at hF
 go_wp2_with (first
  | (go_at_call 105;refine hD.mono ?_;rintro e w3 ⟨rfl,hb3⟩)
  | (go_at_call 35;refine (hF _ _).mono ?_;rintro e w4 ⟨v,rfl,hv,hb4⟩))
 go_ret2;have hb3':=hb1.trans (hb3.mono hb1.size);exact ⟨v,rfl,hv.lo hb3'.size,hb3'.trans (hb4.mono hb3'.size)⟩
theorem jJ (v:Value) (W:World):(method 432 57 v "Page").run Tryz.prog W=.ok (208,v) W:=by kernel_rfl
def tE (r:Except Int (List UInt8)) (B:Nat) (e:Ending) (w':World):Prop:=match r with
 | .error k=>e=.returned (.tuple #[.slice none 0 0,.int .i64 k])
 | .ok b=>∃ A c,e=.returned (.tuple #[.slice A b.length c,.int .i64 0])/\bK w' B A c b
theorem vz (w:World):Calls Tryz.prog 34 #[.nilIface] w fun e w'=>e=.returned (.int .i64 0)/\w'=w:=by
 go_enter Tryz.func34,Tryz.ntmps34;go_wp2;go_ret;exact ⟨rfl,rfl⟩
theorem AW {X:Nat->Prop} {w:World} {T M:Nat} {t:PT} (h:TX X w T M t) (n:Nat) (hn32:n<4294967296) (hn:n<t.pages) (hl:lookO n t.over=none) (hz:¬ (n=0/\t.changed=true)) (hg:ay w) (ht:aH w) :
 Calls Tryz.prog 140 #[.pointer (some ⟨T,0,none⟩),.int .u32 (n:Nat)] w fun e w'=>tE (iN t n) w.heap.size e w'/\Below w.heap.size w w':=by
 have hpg:iN t n=match t.src[n]? with
  | some b=>.ok b
  | none=>.error 7:=by
  unfold iN;rw [if_neg (by omega),hl];simp only;rw [if_neg hz];rfl
 obtain ⟨O,ck,src,h⟩:=h;have f0:w.cell? ⟨T,0,none⟩=some src:=h.blk.cell 0;have f3:w.cell? ⟨T,3,none⟩=some (.int .u32 (t.pages:Nat)):=h.blk.cell 3;have f6:w.cell? ⟨T,6,none⟩=some (.map (some M)):=h.blk.cell 6;have f7:w.cell? ⟨T,7,none⟩=some (.bool t.changed):=h.blk.cell 7;rw [h.over,jH n O 0] at hl
 have hk:look n O 0=none:=by
  cases hk:look n O 0 with
  | none=>rfl
  | some r=>rw [hk] at hl;cases hl
 have HM:=lH (aI h.map hk);have d1:decide ((t.pages:Int)<=(n:Int))=false:=dF (by omega);have d2:decide (t.pages<=n)=false:=dF (by omega);obtain ⟨A,c,ps,e1,e2,h1,h0,h2,h3⟩:=h.src;subst e1;rw [e2] at hpg;rw [hpg];rw [List.getElem?_map]
 have hcz:(((n:Int)==0)=false)\/(n=0/\t.changed=false):=by
  by_cases e:n=0
  ·exact .inr ⟨e,by cases hc:t.changed with
    | false=>rfl
    | true=>exact absurd ⟨e,hc⟩ hz⟩
  ·exact .inl (by simpa using e)
 clear hz;have hme:=fun v W=>jJ v W;have h1lt:=dQ ht
 cases hp:ps[n]? with
 | some p =>
  simp only [Option.map_some];have hpm:=mG hp;have hMp:=ix A c ps n p hp w (nR _) h1 h0 (h3 p hpm).rd (h3 p hpm).long;clear h h1 h2 h3 hl hk hpg
  rcases hcz with zn | ⟨rfl,hch⟩
  ·go_enter Tryz.func140,Tryz.ntmps140
   go_wp2_with (first
    | (refine bq rfl (.tmp 15) (.tmp 16) rfl rfl rfl HM.out.1 HM.out.2 ?_)
    | (go_at_call 208;refine hMp.mono ?_))
   rintro e w2 ⟨A',c',rfl,ho,hb2⟩;have hcode:=vz w2
   go_wp2_with (first
    | (go_at_call 34;refine hcode.mono ?_))
   rintro e w3 ⟨rfl,rfl⟩;go_wp2;go_ret2;exact ⟨⟨A',c',rfl,ho⟩,hb2⟩
  ·rw [hch] at f7;go_enter Tryz.func140,Tryz.ntmps140
   go_wp2_with (first
    | (refine bq rfl (.tmp 15) (.tmp 16) rfl rfl rfl HM.out.1 HM.out.2 ?_)
    | (go_at_call 208;refine hMp.mono ?_))
   rintro e w2 ⟨A',c',rfl,ho,hb2⟩;have hcode:=vz w2
   go_wp2_with (first
    | (go_at_call 34;refine hcode.mono ?_))
   rintro e w3 ⟨rfl,rfl⟩;go_wp2;go_ret2;exact ⟨⟨A',c',rfl,ho⟩,hb2⟩
 | none =>
  simp only [Option.map_none]
  have hnp:ps.length<=n:=by
   rcases Nat.lt_or_ge n ps.length with h9 | h9
   ·rw [gE h9] at hp;cases hp
   ·exact h9
  have hMp:=lL A ps.length c n hn32 hnp w ht;clear h h1 h2 h3 hl hk hpg
  rcases hcz with zn | ⟨rfl,hch⟩
  ·go_enter Tryz.func140,Tryz.ntmps140
   go_wp2_with (first
    | (refine bq rfl (.tmp 15) (.tmp 16) rfl rfl rfl HM.out.1 HM.out.2 ?_)
    | (go_at_call 208;refine hMp.mono ?_))
   rintro e w2 ⟨v,rfl,hv,hb2⟩;have hcode:=tf hv.e (ai hg hb2)
   go_wp2_with (first
    | (go_at_call 34;refine hcode.mono ?_))
   rintro e w3 ⟨rfl,hf3⟩;go_wp2;go_ret2;exact ⟨rfl,hb2.trans (hf3.mono hb2.size)⟩
  ·rw [hch] at f7;go_enter Tryz.func140,Tryz.ntmps140
   go_wp2_with (first
    | (refine bq rfl (.tmp 15) (.tmp 16) rfl rfl rfl HM.out.1 HM.out.2 ?_)
    | (go_at_call 208;refine hMp.mono ?_))
   rintro e w2 ⟨v,rfl,hv,hb2⟩;have hcode:=tf hv.e (ai hg hb2)
   go_wp2_with (first
    | (go_at_call 34;refine hcode.mono ?_))
   rintro e w3 ⟨rfl,hf3⟩;go_wp2;go_ret2;exact ⟨rfl,hb2.trans (hf3.mono hb2.size)⟩
theorem AX {X:Nat->Prop} {w:World} {T M:Nat} {t:PT} (h:TX X w T M t) (ok:t.OK) (n:Nat) (hn32:n<4294967296) (hg:ay w) (ht:aH w) :
 Calls Tryz.prog 140 #[.pointer (some ⟨T,0,none⟩),.int .u32 (n:Nat)] w fun e w'=>tE (iN t n) w.heap.size e w'/\Below w.heap.size w w':=by
 by_cases hn:t.pages<=n
 ·refine (xG h n hn).mono ?_;rintro e w' ⟨rfl,rfl⟩;unfold iN;rw [if_pos hn];exact ⟨rfl,bR _ _⟩
 ·cases hl:lookO n t.over with
  | some b =>
   refine (xq h n b (by omega) hl).mono ?_;rintro e w' ⟨h256,A,c,rfl,ho,hb⟩;unfold iN;rw [if_neg hn,hl];refine ⟨⟨A,c,by rw [h256],?_⟩,hb⟩;unfold bK;rw [h256];exact ho
  | none =>
   by_cases hz:n=0/\t.changed=true
   ·obtain ⟨rfl,hc⟩:=hz;refine (xH h ok hc hl).mono ?_;rintro e w' ⟨A,c,rfl,ho,hb⟩;have hl256:(Ai t.head).length=256:=(aF _).symm.trans ho.1;unfold iN;rw [if_neg hn,hl];simp only [hc,and_self,if_true];refine ⟨⟨A,c,by rw [hl256],?_⟩,hb⟩;unfold bK;rw [hl256];exact ho
   ·exact AW h n hn32 (by omega) hl hz hg ht
end
end Go.Proofs.YtgohffhoapkeaaaGreatDoor
