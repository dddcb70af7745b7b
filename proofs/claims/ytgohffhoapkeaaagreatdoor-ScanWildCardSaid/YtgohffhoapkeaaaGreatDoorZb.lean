/- A part of the proof of ScanWild. No condition of its own. -/
import Derived.Test.YtgohffhoapkeaaaGreatDoorVz
import Derived.Test.YtgohffhoapkeaaaGreatDoorZa
import Derived.Laws.CopyOwn
import Derived.Deep.QuietTactic
import Derived.BigQuiet
import Derived.RangeFuncNested
import Derived.RangeFuncBound
import Derived.RangeFuncCalls
import Derived.RangeFuncLeaves
import Derived.Laws.BitsLemmas
import Derived.RangeFuncWrites
import Derived.RangeFuncFrom
import Derived.Sort.QuietTacIn
import Derived.WalkKit
import Derived.OwnWalkIn
import Derived.TacticsInMore
import Derived.RegionIn
import Derived.LoopNIn
import Derived.LoopIn
import Derived.Shelf.Abstract
import Derived.Lib.Bytealg
import Derived.Laws.BytesArg
set_option maxHeartbeats 8000000
set_option maxRecDepth 1000000
set_option linter.unusedVariables false
namespace Go.Proofs.YtgohffhoapkeaaaGreatDoor
section
open Go.RowKit
def ip (cur:List UInt8) (off:Nat) (s:List UInt8):List UInt8:=cur.take off++s++cur.drop (off+s.length)
theorem xe (cur:List UInt8) (off:Nat) (s:List UInt8):splice (bl cur) off (bl s)=bl (ip cur off s):=by
 unfold splice ip;rw [mJ,mJ,aF];simp [bl,List.map_take,List.map_drop]
theorem ly {cur:List UInt8} {off:Nat} {s:List UInt8} (h:off+s.length<=cur.length):(ip cur off s).length=cur.length:=by
 unfold ip;simp only [lQ,lK,lD];omega
theorem iq:(Tryz.prog.info? 5).map (·.size)=some 1:=by kernel_rfl
section
variable {ops:Array Oper} {o:Oper} {a:Act} {w:World} {Q:Exit->Act->World->Prop}
theorem uW {K:Act->World->Prop} {E:Prop} (hgd:o.guard=none) (d s:Operand) (ho:o.op=.call {callee:=.builtin .copy,args:=#[d,s],argTypes:=#[23,23]})
 {dp sp:Option Addr} {dLen dCap sLen sCap:Nat} (hd:a.eval d=.slice dp dLen dCap) (hs:a.eval s=.slice sp sLen sCap) (g off:Nat) (t:TypeId) (cur src:List UInt8) (hg:aa w g t (bl cur).toArray) (hdp:dp=some ⟨g,off,none⟩)
 {B:Nat} (hr:Reads w B 1 sp sLen (bl src)) (hn:sLen<=dLen) (hfit:off+sLen<=cur.length) {B0:Nat} {w0:World} (hb:Below B0 w0 w) (hBg:B0<=g)
 (h:∀ w',aa w' g t (bl (ip cur off src)).toArray->Below B0 w0 w'->K (a.put o.dst (.int .i64 sLen)) w') :
 if Region.wanted o (yielded ops a.tmps)=true then Oper.wp Tryz.prog o a w K Q else E:=by
 have hl:src.length=sLen:=by have:=hr.1;rw [aF] at this;omega
 refine step_copy_splice hgd d s 23 23 ho 5 Tryz.underlying23 iq dp sp dLen dCap sLen sCap hd hs g off (bl cur) t hg (bl src) (by rw [aF,hl];exact (Nat.min_eq_left hn).symm) (fun h0=>?_) (by rw [aF,aF,hl];exact hfit) (gA _) B0 w0 hb hBg (fun w' hw' hb'=>?_)
 ·rw [aF] at h0;obtain ⟨ad,e,_,h2⟩:=hr.2 (by omega);exact ⟨hdp,ad,e,h2⟩
 ·have:=h w' (by have h1:=hw'.out;rw [xe] at h1;exact h1) hb';rw [aF,hl];exact this
theorem pa {rest:List Oper} (hgd:o.guard=none) (d s:Operand) (ho:o.op=.call {callee:=.builtin .copy,args:=#[d,s],argTypes:=#[23,23]})
 {dp sp:Option Addr} {dLen dCap sLen sCap:Nat} (hd:a.eval d=.slice dp dLen dCap) (hs:a.eval s=.slice sp sLen sCap) (g off:Nat) (t:TypeId) (cur src:List UInt8) (hg:aa w g t (bl cur).toArray) (hdp:dp=some ⟨g,off,none⟩)
 {B:Nat} (hr:Reads w B 1 sp sLen (bl src)) (hn:sLen<=dLen) (hfit:off+sLen<=cur.length) {B0:Nat} {w0:World} (hb:Below B0 w0 w) (hBg:B0<=g)
 (h:∀ w',aa w' g t (bl (ip cur off src)).toArray->Below B0 w0 w'->wpList Tryz.prog ops Q rest (a.put o.dst (.int .i64 sLen)) w'):wpList Tryz.prog ops Q (o::rest) a w:=by
 have hl:src.length=sLen:=by have:=hr.1;rw [aF] at this;omega
 refine wpList_copy_splice hgd d s 23 23 ho 5 Tryz.underlying23 iq dp sp dLen dCap sLen sCap hd hs g off (bl cur) t hg (bl src) (by rw [aF,hl];exact (Nat.min_eq_left hn).symm) (fun h0=>?_) (by rw [aF,aF,hl];exact hfit) (gA _) B0 w0 hb hBg (fun w' hw' hb'=>?_)
 ·rw [aF] at h0;obtain ⟨ad,e,_,h2⟩:=hr.2 (by omega);exact ⟨hdp,ad,e,h2⟩
 ·have:=h w' (by have h1:=hw'.out;rw [xe] at h1;exact h1) hb';rw [aF,hl];exact this
end
theorem fS (w:World) (g:Nat) (cs:Array Value):Fr (fun k=>k=g) w (w.setRow g cs) :=
 ⟨rfl,rfl,rfl,by simp [World.setRow],fun k hk hx=>by
  simp only [World.setRow]
  rw [Array.getElem?_modify,if_neg (fun e=>hx e.symm)]⟩
theorem y5 {B:Nat} {w:World} {sp:Option Addr} {dLen dCap sLen sCap:Nat} (g off:Nat) (t:TypeId) (cur src:List UInt8) (hg:aa w g t (bl cur).toArray) (hr:Reads w B 1 sp sLen (bl src)) (hn:sLen<=dLen) (hfit:off+sLen<=cur.length) :
 ∃ w',(∀ ty,(Builtin.copy_ #[23,23] ty #[.slice (some ⟨g,off,none⟩) dLen dCap,.slice sp sLen sCap]).run Tryz.prog w=.ok (.int .i64 sLen) w')/\aa w' g t (bl (ip cur off src)).toArray/\Fr (fun k=>k=g) w w':=by
 have hl:src.length=sLen:=by have:=hr.1;rw [aF] at this;omega
 by_cases h0:sLen=0
 ·subst h0;have hs:src=[]:=List.eq_nil_of_length_eq_zero hl;subst hs;refine ⟨w,fun ty=>?_,?_,Fr.refl _ _⟩
  ·have h:=run_copy_none (P:=Tryz.prog) w 23 23 ty 5 (some ⟨g,off,none⟩) sp dLen dCap 0 sCap Tryz.underlying23 iq (by simp);exact h
  ·have:ip cur off []=cur:=by unfold ip;simp
   rw [this];exact hg
 ·obtain ⟨ad,rfl,_,h2⟩:=hr.2 (by omega)
  have e:(bl cur).take off++bl src++(bl cur).drop (off+sLen)=bl (ip cur off src):=by
   have h:=xe cur off src;unfold splice at h;rw [aF,hl] at h;rw [<-h,List.append_assoc]
  refine ⟨w.setRow g (bl (ip cur off src)).toArray,fun ty=>?_,setRow_heap w g _ _ t _ hg,fS w g _⟩
  ·have h:=run_copy_row (P:=Tryz.prog) w 23 23 ty 5 g off dLen dCap ad sLen sCap (bl cur).toArray t (bl src) Tryz.underlying23 iq hg (by rw [aF,hl];exact (Nat.min_eq_left hn).symm) h2 (by rw [aF,hl];simp only [List.size_toArray,aF];exact hfit) (gA _);rw [aF,hl] at h;simp only [e] at h;exact h
section
variable {ops:Array Oper} {o:Oper} {a:Act} {w:World} {Q:Exit->Act->World->Prop}
theorem pb {K:Act->World->Prop} {E:Prop} (hgd:o.guard=none) (d s:Operand) (ho:o.op=.call {callee:=.builtin .copy,args:=#[d,s],argTypes:=#[23,23]})
 {dp sp:Option Addr} {dLen dCap sLen sCap:Nat} (hd:a.eval d=.slice dp dLen dCap) (hs:a.eval s=.slice sp sLen sCap) (g off:Nat) (t:TypeId) (cur src:List UInt8) (hg:aa w g t (bl cur).toArray) (hdp:dp=some ⟨g,off,none⟩)
 {B:Nat} (hr:Reads w B 1 sp sLen (bl src)) (hn:sLen<=dLen) (hfit:off+sLen<=cur.length)
 (h:∀ w',aa w' g t (bl (ip cur off src)).toArray->Fr (fun k=>k=g) w w'->K (a.put o.dst (.int .i64 sLen)) w') :
 if Region.wanted o (yielded ops a.tmps)=true then Oper.wp Tryz.prog o a w K Q else E:=by
 subst hdp;obtain ⟨w',h1,h2,h3⟩:=y5 (dLen:=dLen) (dCap:=dCap) (sCap:=sCap) g off t cur src hg hr hn hfit
 have hw:Region.wanted o (yielded ops a.tmps)=true:=by simp [Region.wanted,hgd]
 rw [if_pos hw];unfold Oper.wp execOp;simp only [ho,resolve,invoke,builtin,Sem.run_bind,Sem.run_pure,Result.andThen_ok,List.map_toArray,List.map_cons,List.map_nil,hd,hs,h1];exact h w' h2 h3
theorem uX {rest:List Oper} (hgd:o.guard=none) (d s:Operand) (ho:o.op=.call {callee:=.builtin .copy,args:=#[d,s],argTypes:=#[23,23]})
 {dp sp:Option Addr} {dLen dCap sLen sCap:Nat} (hd:a.eval d=.slice dp dLen dCap) (hs:a.eval s=.slice sp sLen sCap) (g off:Nat) (t:TypeId) (cur src:List UInt8) (hg:aa w g t (bl cur).toArray) (hdp:dp=some ⟨g,off,none⟩)
 {B:Nat} (hr:Reads w B 1 sp sLen (bl src)) (hn:sLen<=dLen) (hfit:off+sLen<=cur.length)
 (h:∀ w',aa w' g t (bl (ip cur off src)).toArray->Fr (fun k=>k=g) w w'->wpList Tryz.prog ops Q rest (a.put o.dst (.int .i64 sLen)) w'):wpList Tryz.prog ops Q (o::rest) a w:=by
 subst hdp;obtain ⟨w',h1,h2,h3⟩:=y5 (dLen:=dLen) (dCap:=dCap) (sCap:=sCap) g off t cur src hg hr hn hfit;refine wpList_plain hgd fun K hK=>?_;unfold Oper.wp execOp;simp only [ho,resolve,invoke,builtin,Sem.run_bind,Sem.run_pure,Result.andThen_ok,List.map_toArray,List.map_cons,List.map_nil,hd,hs,h1];exact hK _ _ (h w' h2 h3)
theorem iX {B size n:Nat} {w':World} {A:Option Addr} {xs:List Value} {X:Nat->Prop} (h:Reads w B size A n xs) (hf:Fr X w w') (hB:B<=w.heap.size) (hA:∀ ad,A=some ad->¬ X ad.block):Reads w' B size A n xs :=
 ⟨h.1,fun h0=>by
  obtain ⟨ad,e,h1,h2⟩:=h.2 h0;refine ⟨ad,e,h1,fun j u hu=>?_⟩
  exact (World.cell?_of_block (a:=ad.add j) (by rw [bV];exact hf.block _ (by omega) (hA ad e))).trans (h2 j u hu)⟩
end
theorem rK (k:Int) (h:1<=k/\k<=5) (w:World):Calls Tryz.prog 76 #[.int .i64 k] w fun e w'=>e=.returned (.bool true)/\w=w':=by
 have d1:decide (1<=k)=true:=dT h.1;have d2:decide (k<=5)=true:=dT h.2;go_enter Tryz.func76,Tryz.ntmps76;go_wp2;go_ret;exact ⟨rfl,rfl⟩
theorem Ao (k:Int) (h:¬ (1<=k/\k<=5)) (w:World):Calls Tryz.prog 76 #[.int .i64 k] w fun e w'=>e=.returned (.bool false)/\w=w':=by
 by_cases h1:1<=k
 ·have d1:decide (1<=k)=true:=dT h1;have d2:decide (k<=5)=false:=dF (fun h2=>h ⟨h1,h2⟩);go_enter Tryz.func76,Tryz.ntmps76;go_wp2;go_ret;exact ⟨rfl,rfl⟩
 ·have d1:decide (1<=k)=false:=dF h1;go_enter Tryz.func76,Tryz.ntmps76;go_wp2;go_ret;exact ⟨rfl,rfl⟩
def zB (n:Nat):List UInt8:=List.replicate n 0
theorem gC (n:Nat):(zB n).length=n:=by simp [zB]
theorem Eo (n:Nat):zB (n+1)=0::zB n:=rfl
theorem sU (s:Nat) (hs:s<=1000000) (w:World):(Instr.makeSlice 23 (.int .i64 (s:Int)) (.int .i64 (s:Int))).run Tryz.prog w=.ok (.slice (some ⟨w.heap.size,0,none⟩) s s) (w.alloc (.cells (bl (zB s)).toArray 5)):=o8 s hs w
theorem Ep (l:List UInt8) (x:UInt8) (k:Nat) (h:k<256):(bl (x::l)).set 0 (.int .u8 (k:Int))=bl (UInt8.ofNat k::l):=by
 unfold bl;rw [List.map_cons,List.map_cons,List.set_cons_zero,ko h]
theorem Cm (k lsn:Nat) (b:List UInt8) (h:b.length=243):ip (ip (UInt8.ofNat k::zB 251) 1 (ag 8 lsn)) 9 b=UInt8.ofNat k::(ag 8 lsn++b):=by
 have h8:=fL 8 lsn
 have e1:ip (UInt8.ofNat k::zB 251) 1 (ag 8 lsn)=(UInt8.ofNat k::ag 8 lsn)++zB 243:=by
  unfold ip;rw [h8,show (1+8:Nat)=8+1 from rfl,List.drop_succ_cons]
  have:(zB 251).drop 8=zB 243:=by unfold zB;rw [List.drop_replicate]
  rw [this];rfl
 rw [e1];unfold ip;rw [h,uS (by rw [List.length_cons,h8]),List.drop_of_length_le (by rw [lQ,List.length_cons,h8,gC];omega),List.append_nil,List.cons_append]
theorem Cn {B:Nat} (k lsn:Nat) (A:Option Addr) (c:Nat) (b:List UInt8) (w:World) (hB:B<=w.heap.size) (hr:Reads w B 1 A 243 (bl b)) (hk:1<=k/\k<=5) (hl:lsn<18446744073709551616) :
 Calls Tryz.prog 93 #[.agg #[.int .i64 k,.int .u64 lsn,.slice A 243 c]] w fun e w'=>∃ v,e=.returned (.tuple #[v,.int .i64 0])/\w'.ownsRow w.heap.size 5 1 v 256 (bl (uR k lsn b))/\Below w.heap.size w w':=by
 have hbl:b.length=243:=by have:=hr.1;rw [aF] at this;omega
 have hm:∀ W:World,(Instr.makeSlice 23 (.int .i64 252) (.int .i64 252)).run Tryz.prog W=.ok (.slice (some ⟨W.heap.size,0,none⟩) 252 252) (W.alloc (.cells (bl (zB 252)).toArray 5)):=fun W=>sU 252 (by omega) W;have hkk:=rK (k:Int) (by omega);have bP:=aa.new w 133 #[.int .i64 k,.int .u64 lsn,.slice A 243 c]
 obtain ⟨w1,hw1⟩:∃ w1,w1=w.alloc (.cells #[.int .i64 k,.int .u64 lsn,.slice A 243 c] 133):=⟨_,rfl⟩
 have hs1:w1.heap.size=w.heap.size+1:=by rw [hw1];simp
 have hb1:Below w.heap.size w w1:=by rw [hw1];exact (bR _ w).alloc (nR _) _
 have bG:=aa.new w1 5 (bl (zB 252)).toArray
 have hc0:(w1.alloc (.cells (bl (zB 252)).toArray 5)).cell? ⟨w.heap.size+1,0,none⟩=some (.int .u8 0):=by
  rw [<-hs1,bG.cell];rfl
 have hf0:(w1.alloc (.cells (bl (zB 252)).toArray 5)).frozen? ⟨w.heap.size+1,0,none⟩=false:=by
  rw [<-hs1];exact bG.frozen 0
 have bP1:aa w1 w.heap.size 133 #[.int .i64 k,.int .u64 lsn,.slice A 243 c]:=by rw [hw1];exact bP
 obtain ⟨w3,hw3⟩:∃ w3,w3=w1.alloc (.cells (bl (UInt8.ofNat k::zB 251)).toArray 5):=⟨_,rfl⟩
 have hs3:w3.heap.size=w.heap.size+2:=by rw [hw3];simp [hs1]
 have hb3:Below w.heap.size w w3:=by rw [hw3];exact hb1.alloc hb1.size _
 have bP3:aa w3 w.heap.size 133 #[.int .i64 k,.int .u64 lsn,.slice A 243 c]:=by rw [hw3];exact bP1.alloc _
 have bG3:aa w3 (w.heap.size+1) 5 (bl (UInt8.ofNat k::zB 251)).toArray:=by rw [hw3,<-hs1];exact aa.new _ _ _
 have hset:(bl (zB 252)).set 0 (.int .u8 (k:Int))=bl (UInt8.ofNat k::zB 251):=by rw [Eo];exact Ep _ _ _ (by omega)
 rw [hw1] at hc0 hf0 hw3;have H:=lH (aI hs3 (aI hb3 (aI bP3 bG3)));have HW3:=lH hw3;clear bG hb1 bP1 hs1 bP hs3 hb3 bP3 bG3 hw3;go_enter Tryz.func93,Tryz.ntmps93
 go_wp2_with (go_at_call 76;refine (hkk _).mono ?_;rintro e w1 ⟨rfl,rfl⟩)
 rw [<-HW3.out];clear hc0 hf0 hset hm hkk hw1;obtain ⟨hs3,hb3,bP3,bG3⟩:=H.out;have hb3d:Below w.heap.size w w3.drew:=hb3.drew;refine bB 5 (fun W0=>W0.cell? ⟨w.heap.size,1,none⟩=some (.int .u64 lsn)) (bP3.cell 1) (fun hHeld hTl=>?_);refine ae 0 hTl hHeld (fun hTl=>?_)
 try simp only [pT]
 refine ae 1 hTl hHeld (fun hTl=>?_)
 try simp only [pT]
 refine ae 2 hTl hHeld (fun hTl=>?_)
 try simp only [pT]
 refine ae 3 hTl hHeld (fun hTl=>?_)
 try simp only [pT]
 clear hTl;refine sP 4 (ea lsn 8 hl (by omega) (by omega) _) ?_
 rintro e w4 ⟨g4,e4,hg4,hB4,hb4⟩;subst e4;have k4:w4.cell? ⟨w.heap.size,1,none⟩=some (.int .u64 lsn):=(bP3.drew.below hb4 (by simp [hs3])).cell 1
 refine ⟨_,rfl,(fun _=>k4),?_⟩
 try simp only [pT]
 have bG4:=bG3.drew.below hb4 (by simp [hs3]);have bP4:=bP3.drew.below hb4 (by simp [hs3]);have hbw4:Below w.heap.size w w4:=hb3d.trans (hb4.mono hb3d.size);refine aA 5 (fun K hK=>?_);refine uW rfl (.tmp 22) (.tmp 25) rfl rfl rfl (w.heap.size+1) 1 5 (UInt8.ofNat k::zB 251) (ag 8 lsn) bG4 rfl (rB hB4 (fL 8 _)) (by omega) (by simp [gC]) (bR (w.heap.size+1) w4) (nR _) ?_;intro w5 bG5 hb5;refine hK.out _ _ (fun h=>absurd h (by decide)) ?_;clear hK K
 try simp only [pT]
 refine cW ?_ _;have bP5:=bP4.below hb5 (Nat.lt_succ_self _);have hbw5:Below w.heap.size w w5:=hbw4.trans (hb5.mono (Nat.le_succ _));have hr5:=(hr.below (hbw5.mono hB)).drew
 have hl1:(ip (UInt8.ofNat k::zB 251) 1 (ag 8 lsn)).length=252:=by rw [ly (by rw [fL,List.length_cons,gC];omega),List.length_cons,gC]
 go_wp2;refine bB 4 (fun W0=>W0.cell? ⟨w.heap.size,2,none⟩=some (.slice A 243 c)) (bP5.cell 2) (fun hHeld hTl=>?_);refine ae 0 hTl hHeld (fun hTl=>?_)
 try simp only [pT]
 refine ae 1 hTl hHeld (fun hTl=>?_)
 try simp only [pT]
 refine ae 2 hTl hHeld (fun hTl=>?_)
 try simp only [pT]
 refine ae 3 hTl hHeld (fun hTl=>?_)
 try simp only [pT]
 clear hTl;refine aA 4 (fun K hK=>?_);refine uW rfl (.tmp 28) (.tmp 30) rfl rfl rfl (w.heap.size+1) 9 5 (ip (UInt8.ofNat k::zB 251) 1 (ag 8 lsn)) b bG5.drew rfl hr5 (nR _) (by rw [hl1];omega) (bR (w.heap.size+1) w5.drew) (nR _) ?_;intro w6 bG6 hb6;refine hK.out _ _ (fun h=>absurd h (by decide)) ?_;clear hK K
 try simp only [pT]
 refine cW ?_ _;rw [Cm k lsn b hbl] at bG6;have hbw6:Below w.heap.size w w6:=hbw5.drew.trans (hb6.mono (Nat.le_succ _))
 have hlX:(UInt8.ofNat k::(ag 8 lsn++b)).length=252:=by rw [List.length_cons,lQ,fL,hbl]
 have hP:=xd (some ⟨w.heap.size+1,0,none⟩) 252 (UInt8.ofNat k::(ag 8 lsn++b)) w6 (nR _) (rB bG6 rfl) (by omega);rw [hlX,Cc,hlX] at hP;clear hlX hl1 bG6 bG5 bP5 bP4 bG4 bP3 bG3 hr5 hB4
 go_wp2_with (go_at_call 125;refine hP.mono ?_;rintro e w7 ⟨v7,rfl,ho7,hb7⟩;obtain ⟨A7,c7,rfl⟩:=bw ho7)
 go_ret2;exact ⟨_,rfl,cj ho7 hbw6.size,hbw6.trans (hb7.mono hbw6.size)⟩
end
section
open Go.RowKit
def SB (w:World) (s:Nat) (b:List UInt8):Prop:=aa w s 254 (bl b).toArray/\b.length=243
theorem SB.cell {w:World} {s:Nat} {b:List UInt8} (h:SB w s b) {i:Nat} (hi:i<243):w.cell? ⟨s,i,none⟩=some (.int .u8 ((b.getD i 0).toNat:Nat)):=by
 rw [h.1.cell]
 have hi':i<b.length:=by have:=h.2;omega
 simp [bl,List.getD_eq_getElem?_getD,gE hi']
theorem SB.below {B:Nat} {w w':World} {s:Nat} {b:List UInt8} (h:SB w s b) (hb:Below B w w') (hs:s<B):SB w' s b:=⟨h.1.below hb hs,h.2⟩
theorem SB.lt {w:World} {s:Nat} {b:List UInt8} (h:SB w s b):s<w.heap.size:=h.1.lt
theorem SB.set_ {w:World} {s:Nat} {b:List UInt8} (h:SB w s b) (i k:Nat) (hk:k<256):SB (w.setCell ⟨s,i,none⟩ (.int .u8 (k:Nat))) s (b.set i (UInt8.ofNat k)):=by
 refine ⟨?_,by rw [List.length_set];exact h.2⟩;have:=h.1.set_ i (.int .u8 (((UInt8.ofNat k).toNat:Nat):Int));rw [Ch,ko hk] at this;exact this
theorem below_drewN {B:Nat} {a w:World} (h:Below B a w) (n:Nat):Below B a (w.drewN n):=⟨h.os,h.tape,h.output,h.size,h.block⟩
theorem uY (w:World):Calls Tryz.prog 116 #[] w fun e w'=>∃ s,e=.returned (.pointer (some ⟨s,0,none⟩))/\w.heap.size<=s/\SB w' s (0::243::zB 241)/\Below w.heap.size w w':=by
 go_enter Tryz.func116,Tryz.ntmps116;go_wp2;go_ret;refine ⟨_,rfl,nR _,⟨?_,rfl⟩,(bR _ _).alloc (nR _) _⟩;exact heap_alloc_new w _
theorem gp (i:Nat) (hi:i<=100000) (w:World):Calls Tryz.prog 144 #[.int .i64 i] w fun e w'=>e=.returned (.int .i64 ((2+2*i:Nat):Int))/\w=w':=by
 go_enter Tryz.func144,Tryz.ntmps144;go_wp2;go_ret;exact ⟨rfl,rfl⟩
theorem cX {w:World} {s:Nat} {b:List UInt8} (h:SB w s b):Calls Tryz.prog 111 #[.pointer (some ⟨s,0,none⟩)] w fun e w'=>e=.returned (.int .i64 ((b.getD 0 0).toNat:Nat))/\w=w':=by
 have c0:=h.cell (i:=0) (by omega);have hk:(b.getD 0 0).toNat<256:=(b.getD 0 0).toNat_lt
 obtain ⟨k,HK⟩:∃ k,Hid ((b.getD 0 0).toNat=k):=⟨_,lH rfl⟩
 rw [HK.out] at c0 hk ⊢;go_enter Tryz.func111,Tryz.ntmps111;go_wp2;go_ret;exact ⟨rfl,rfl⟩
theorem pc {w:World} {s:Nat} {b:List UInt8} (h:SB w s b):Calls Tryz.prog 149 #[.pointer (some ⟨s,0,none⟩)] w fun e w'=>e=.returned (.int .i64 ((b.getD 1 0).toNat:Nat))/\w=w':=by
 have c0:=h.cell (i:=1) (by omega);have hk:(b.getD 1 0).toNat<256:=(b.getD 1 0).toNat_lt
 obtain ⟨k,HK⟩:∃ k,Hid ((b.getD 1 0).toNat=k):=⟨_,lH rfl⟩
 rw [HK.out] at c0 hk ⊢;go_enter Tryz.func149,Tryz.ntmps149;go_wp2;go_ret;exact ⟨rfl,rfl⟩
theorem jE {w:World} {s:Nat} {b:List UInt8} (h:SB w s b) (i:Nat) (hi:3+2*i<243) :
 Calls Tryz.prog 146 #[.pointer (some ⟨s,0,none⟩),.int .i64 i] w fun e w'=>e=.returned (.tuple #[.int .i64 (qY b i:Nat),.int .i64 (ow b i:Nat)])/\Below w.heap.size w w':=by
 have c0:=h.cell (i:=2+2*i) (by omega);have c1:=h.cell (i:=2+2*i+1) (by omega);rw [show 2+2*i+1=3+2*i by omega] at c1;unfold qY ow;have hk:(b.getD (2+2*i) 0).toNat<256:=(b.getD (2+2*i) 0).toNat_lt;have hl:(b.getD (3+2*i) 0).toNat<256:=(b.getD (3+2*i) 0).toNat_lt
 obtain ⟨k,HK⟩:∃ k,Hid ((b.getD (2+2*i) 0).toNat=k):=⟨_,lH rfl⟩
 obtain ⟨l,HL⟩:∃ l,Hid ((b.getD (3+2*i) 0).toNat=l):=⟨_,lH rfl⟩
 rw [HK.out] at c0 hk ⊢;rw [HL.out] at c1 hl ⊢
 obtain ⟨d,HD⟩:∃ d,Hid (2+2*i=d):=⟨_,lH rfl⟩
 have hD:=fun W=>gp i (by omega) W
 have hd:d+1<243:=by have:=HD.out;omega
 rw [show 3+2*i=d+1 by have:=HD.out;omega] at c1;rw [HD.out] at c0 hD;go_enter Tryz.func146,Tryz.ntmps146;go_wp2
 go_quiet ((go_at_call 144;exact Calls.quiet_of_same ((hD _).mono fun _ _ h=>⟨h.1,h.2.symm⟩)))
 go_wp2;go_ret2;exact ⟨rfl,below_drewN (bR _ _) _⟩
theorem IQ {k:IntKind} {a b:Int} (h:a=b):Ending.returned (.int k a)=.returned (.int k b):=by rw [h]
theorem gQ {l:List (List UInt8)} {k:Nat} (h:k<l.length):ah (l.take (k+1))=ah (l.take k)+l[k].length:=by
 rw [List.take_succ_eq_append_getElem h,gK]
theorem bY (l:List (List UInt8)) (k:Nat):ah (l.take k)<=ah l:=by
 conv=>rhs;rw [<-List.take_append_drop k l]
 unfold ah;rw [List.map_append,List.sum_append];omega
theorem oB {l:List (List UInt8)} (h:2+2*l.length+ah l<=243):((ar l).getD 0 0).toNat=l.length:=by
 show (UInt8.ofNat l.length).toNat=_;exact ko (by omega)
theorem Er {l:List (List UInt8)} (h:2+2*l.length+ah l<=243):((ar l).getD 1 0).toNat=243-ah l:=by
 show (UInt8.ofNat (243-ah l)).toNat=_;exact ko (by omega)
theorem uZ {l:List (List UInt8)} (h:2+2*l.length+ah l<=243) {k:Nat} (hk:k<l.length):qY (ar l) k=243-ah (l.take k)-l[k].length/\ow (ar l) k=l[k].length:=by
 obtain ⟨e1,e2,_⟩:=Ah h (p:=l.take k) (q:=l.drop (k+1)) (c:=l[k]) (i:=k) (by rw [<-List.drop_eq_getElem_cons hk,List.take_append_drop]) (by rw [lK];omega);exact ⟨e1,e2⟩
theorem Co {w:World} {s:Nat} {l:List (List UInt8)} (hS:SB w s (ar l)) (hl:2+2*l.length+ah l<=243) :
 Calls Tryz.prog 168 #[.pointer (some ⟨s,0,none⟩)] w fun e w'=>e=.returned (.int .i64 (ah l:Nat))/\Below w.heap.size w w':=by
 have hL:=cX hS;rw [oB hl] at hL;have HS:=lH hS;clear hS;go_enter Tryz.func168,Tryz.ntmps168
 go_wp2_with (go_at_call 111;refine hL.mono ?_;rintro e w1 ⟨rfl,rfl⟩)
 go_loopw [2,8] (fun x i wr=>∃ k:Nat,k<=l.length/\i=.int .i64 k/\x=.int .i64 (ah (l.take k):Nat)/\Below w.heap.size w wr) (fun _ i _=>l.length-(intOf i).toNat)
 case atStart=>exact ⟨0,zL _,rfl,rfl,bR _ _⟩
 case round =>
  obtain ⟨k,hk,rfl,rfl,hb⟩:=hrel
  obtain ⟨wo,rfl⟩:∃ wo,wo=wr:=⟨wr,rfl⟩
  have hle:=bY l k;by_cases hlt:k<l.length
  ·have d1:decide (k<l.length)=true:=dT hlt;have hP:=jE (HS.out.below hb HS.out.lt) k (by omega);obtain ⟨e1,e2⟩:=uZ hl hlt;rw [e1,e2] at hP;have hle2:=bY l (k+1);have hsc:=gQ hlt;rw [hsc] at hle2;have HSC:=lH hsc
   obtain ⟨m,HM⟩:∃ m,Hid (ah (l.take k)=m):=⟨_,lH rfl⟩
   obtain ⟨n,HN⟩:∃ n,Hid (l[k].length=n):=⟨_,lH rfl⟩
   rw [HM.out] at hle hle2 hP ⊢;rw [HN.out] at hle2 hP
   obtain ⟨at',HA⟩:∃ x,Hid (243-m-n=x):=⟨_,lH rfl⟩
   rw [HA.out] at hP;clear hsc e1 e2
   go_wp2_with (go_at_call 146;refine hP.mono ?_;rintro e w2 ⟨rfl,hb2⟩)
   go_roundw
   case rel=>exact ⟨k+1,by omega,by go_num,by rw [HSC.out,HM.out,HN.out];go_num,hb.trans (hb2.mono hb.size)⟩
   case measure=>simp [intOf];omega
  ·have d1:decide (k<l.length)=false:=dF hlt
   obtain rfl:k=l.length:=by omega
   go_wp2;go_ret;exact ⟨by rw [List.take_length];rfl,hb⟩
theorem Aq {w:World} {s:Nat} {l:List (List UInt8)} (hS:SB w s (ar l)) (hl:2+2*l.length+ah l<=243) :
 Calls Tryz.prog 148 #[.pointer (some ⟨s,0,none⟩)] w fun e w'=>e=.returned (.int .i64 ((243-(2+2*l.length)-ah l:Nat):Int))/\Below w.heap.size w w':=by
 have hL:=cX hS;rw [oB hl] at hL;have hD:=gp l.length (by omega) w;have hM:=Co hS hl
 obtain ⟨m,HM⟩:∃ m,Hid (ah l=m):=⟨_,lH rfl⟩
 rw [HM.out] at hM hl ⊢
 obtain ⟨d,hd⟩:∃ d,2+2*l.length=d:=⟨_,rfl⟩
 rw [hd] at hD hl ⊢;clear hd;go_enter Tryz.func148,Tryz.ntmps148
 go_wp2_with (first | (go_at_call 111;refine hL.mono ?_;rintro e w1 ⟨rfl,rfl⟩) | (go_at_call 144;refine hD.mono ?_;rintro e w1 ⟨rfl,rfl⟩) | (go_at_call 168;refine hM.mono ?_;rintro e w1 ⟨rfl,hb1⟩))
 go_ret;exact ⟨IQ (by omega),hb1⟩
def xf (b:List UInt8) (i top:Nat) (c:List UInt8):List UInt8:=(((ip b (top-c.length) c).set 1 (UInt8.ofNat (top-c.length))).set (2+2*i) (UInt8.ofNat (top-c.length))).set (3+2*i) (UInt8.ofNat c.length)
theorem Cp {B:Nat} {w:World} {s:Nat} {b:List UInt8} (hS:SB w s b) (i top:Nat) (ht:(b.getD 1 0).toNat=top) (ht2:top<=243) (hi:3+2*i<243) (A:Option Addr) (cc:Nat) (c:List UInt8) (hr:Reads w B 1 A c.length (bl c)) (hB:B<=w.heap.size) (hc:c.length<=top) (hc2:c.length<=78) (h0:0<c.length) :
 Calls Tryz.prog 151 #[.pointer (some ⟨s,0,none⟩),.int .i64 i,.slice A c.length cc] w fun e w'=>e=.returned (.tuple #[])/\SB w' s (xf b i top c)/\Fr (fun k=>k=s) w w':=by
 have hT:=pc hS;rw [ht] at hT
 obtain ⟨n,HN⟩:∃ n,Hid (c.length=n):=⟨_,lH rfl⟩
 rw [HN.out] at hr hc hc2 h0 ⊢
 obtain ⟨at',ha⟩:∃ x,top=x+n:=⟨top-n,by omega⟩
 have hat:top-n=at':=by omega
 have HAT:=lH hat;subst ha;have HS:=lH hS
 have i0:(0:Int)<=(at':Int):=by omega
 have i1:(at':Int)<=243:=by omega
 have i2:((at':Int)+(n:Int)-(n:Int))=(at':Int):=by omega
 have i3:¬ (243=at'):=by omega
 have hbl:b.length=243:=hS.2;clear hS hat ht;go_enter Tryz.func151,Tryz.ntmps151
 go_wp2_with (first
  | (go_at_call 149;refine hT.mono ?_;rintro e w1 ⟨rfl,rfl⟩)
  | (refine uX rfl (.tmp 16) (.tmp 17) rfl rfl rfl s at' 254 b c HS.out.1 rfl hr (by omega) (by omega) ?_;intro w1 bG1 hb1;have c1:=SB.cell (i:=1) ⟨bG1,by rw [ly (by rw [HN.out];omega)];exact hbl⟩ (by omega);have f1:=aa.frozen bG1 1))
 have hbs:(ip b at' c).length=243:=by rw [ly (by rw [HN.out];omega)];exact hbl
 have S1:SB w1 s (ip b at' c):=⟨bG1,hbs⟩
 have S2:=S1.set_ 1 at' (by omega);have hb2:Fr (fun k=>k=s) w (w1.setCell ⟨s,1,none⟩ (.int .u8 (at':Nat))):=hb1.setCell (p:=⟨s,1,none⟩) (.inr rfl) _
 obtain ⟨w2,hw2⟩:∃ w2,w2=w1.setCell ⟨s,1,none⟩ (.int .u8 (at':Nat)):=⟨_,rfl⟩
 rw [<-hw2] at S2 hb2 ⊢
 obtain ⟨d,HD⟩:∃ d,Hid (2+2*i=d):=⟨_,lH rfl⟩
 have hD:=fun W=>gp i (by omega) W
 have hd:d+1<243:=by have:=HD.out;omega
 rw [HD.out] at hD;have S3:=(S2.set_ d at' (by omega)).set_ (d+1) n (by omega);have HS2:=lH (aI S2 S3);clear c1 f1 bG1 hw2 S1 hT;have q0:w2.drew.cell? ⟨s,d,none⟩=some (.int .u8 ((((ip b at' c).set 1 (UInt8.ofNat at')).getD d 0).toNat:Nat)):=S2.cell (by omega);have q1:w2.drew.frozen? ⟨s,d,none⟩=false:=S2.1.frozen d;have q2:(w2.setCell ⟨s,d,none⟩ (.int .u8 (at':Nat))).drew.cell? ⟨s,d+1,none⟩=some (.int .u8 (((((ip b at' c).set 1 (UInt8.ofNat at')).set d (UInt8.ofNat at')).getD (d+1) 0).toNat:Nat)):=(S2.set_ d at' (by omega)).cell (by omega);have q3:(w2.setCell ⟨s,d,none⟩ (.int .u8 (at':Nat))).drew.frozen? ⟨s,d+1,none⟩=false:=(S2.set_ d at' (by omega)).1.frozen (d+1)
 have hwn:IntKind.u8.wrap (n:Int)=(n:Int):=by rw [IntKind.wrap_u8];omega
 have hwa:IntKind.u8.wrap (at':Int)=(at':Int):=by rw [IntKind.wrap_u8];omega
 have j0:(d:Int)<243:=by omega
 have j1:(d:Int)+1<243:=by omega
 have j2:IntKind.i64.wrap ((d:Int)+1)=(d:Int)+1:=by rw [IntKind.wrap_i64];omega
 have j3:((d:Int)+1).toNat=d+1:=by omega
 have j4:(0:Int)<=(d:Int)+1:=by omega
 refine bB 19 (fun _=>True) (trivial) (fun hHeld hTl=>?_);refine ae 0 hTl hHeld (fun hTl=>?_)
 try simp only [pT]
 refine ae 1 hTl hHeld (fun hTl=>?_)
 try simp only [pT]
 refine ae 3 hTl hHeld (fun hTl=>?_)
 try simp only [pT]
 refine ae 4 hTl hHeld (fun hTl=>?_)
 try simp only [pT]
 refine ae 7 hTl hHeld (fun hTl=>?_)
 try simp only [pT]
 refine ae 8 hTl hHeld (fun hTl=>?_)
 try simp only [pT]
 refine ae 9 hTl hHeld (fun hTl=>?_)
 try simp only [pT]
 refine ae 10 hTl hHeld (fun hTl=>?_)
 try simp only [pT]
 refine ae 11 hTl hHeld (fun hTl=>?_)
 try simp only [pT]
 refine ae 12 hTl hHeld (fun hTl=>?_)
 try simp only [pT]
 refine ae 13 hTl hHeld (fun hTl=>?_)
 try simp only [pT]
 refine ae 16 hTl hHeld (fun hTl=>?_)
 try simp only [pT]
 refine ae 17 hTl hHeld (fun hTl=>?_)
 try simp only [pT]
 have hTl2:=hTl.step 2 (by kernel_rfl) (by decide);clear hTl;refine sP 2 (hD _) ?_;rintro e w5 ⟨rfl,rfl⟩;refine ⟨_,rfl,(fun _=>trivial),?_⟩
 try simp only [pT]
 have hTl:=hTl2;clear hTl2;have hTl2:=hTl.step 5 (by kernel_rfl) (by decide);clear hTl;refine sP 5 (hD _) ?_;rintro e w5 ⟨rfl,rfl⟩;refine ⟨_,rfl,(fun _=>trivial),?_⟩
 try simp only [pT]
 have hTl:=hTl2;clear hTl2;refine ae 6 hTl hHeld (fun hTl=>?_)
 try simp only [pT]
 refine ae 14 hTl hHeld (fun hTl=>?_)
 try simp only [pT]
 have hTl2:=hTl.step 15 (by kernel_rfl) (by decide);clear hTl;refine aA 15 (fun K hK=>?_);go_simp;refine hK.out _ _ (fun _=>trivial) ?_;clear hK K
 try simp only [pT]
 have hTl:=hTl2;clear hTl2;refine ae 18 hTl hHeld (fun hTl=>?_)
 try simp only [pT]
 clear hTl;refine az 19 (fun K hK=>?_);go_simp;refine hK.out _ _ ?_;clear hK K
 try simp only [pT]
 refine cW ?_ _;have hS4:=HS2.out.2
 have hle:xf b i (at'+n) c=(((ip b at' c).set 1 (UInt8.ofNat at')).set d (UInt8.ofNat at')).set (d+1) (UInt8.ofNat n):=by
  unfold xf;rw [HN.out,HAT.out,HD.out,show 3+2*i=d+1 by have:=HD.out;omega]
 rw [<-hle] at hS4;clear q0 q1 q2 q3 S2 S3 hle;go_wp2
 go_end0
 exact ⟨rfl,hS4,(hb2.setCell (p:=⟨s,d,none⟩) (.inr rfl) _).setCell (p:=⟨s,d+1,none⟩) (.inr rfl) _ |>.drew⟩
theorem Cq {l:List (List UInt8)} {c:List UInt8} (h:2+2*(l.length+1)+(ah l+c.length)<=243):xf ((ar l).set 0 (UInt8.ofNat (l.length+1))) l.length (243-ah l) c=ar (l++[c]):=by
 have hb:=fw (l:=l) (by omega);have hb2:=fw (l:=l++[c]) (by rw [lQ,List.length_singleton,gK];omega)
 have hlen:(xf ((ar l).set 0 (UInt8.ofNat (l.length+1))) l.length (243-ah l) c).length=243:=by
  unfold xf;rw [List.length_set,List.length_set,List.length_set,ly (by rw [List.length_set,hb];omega),List.length_set,hb]
 have e1:ar l=(UInt8.ofNat l.length::UInt8.ofNat (243-ah l)::dZ 243 l)++(List.replicate (243-ah l-(2+2*l.length)) 0++ii l):=by unfold ar;simp
 have e2:ar (l++[c])=(UInt8.ofNat (l.length+1)::UInt8.ofNat (243-ah l-c.length)::(dZ 243 l++[UInt8.ofNat (243-ah l-c.length),UInt8.ofNat c.length]))++(List.replicate (243-ah l-c.length-(2+2*(l.length+1))) 0++(c++ii l)):=by
  unfold ar;rw [rE,Ag,gK,lQ,List.length_singleton,show 243-(ah l+c.length)=243-ah l-c.length by omega];simp
 have hd:=dO 243 l;have hr:=oY l;refine List.ext_getElem? fun j=>?_;by_cases hj':243<=j
 ·rw [List.getElem?_eq_none (by omega),List.getElem?_eq_none (by omega)]
 have hj:j<243:=by omega
 unfold xf;rw [List.getElem?_set,List.getElem?_set,List.getElem?_set]
 have hspl:(ip ((ar l).set 0 (UInt8.ofNat (l.length+1))) (243-ah l-c.length) c).length=243:=by rw [ly (by rw [List.length_set,hb];omega),List.length_set,hb]
 simp only [List.length_set,hspl];rw [e2];by_cases h3:3+2*l.length=j
 ·rw [if_pos h3,if_pos (by omega),List.getElem?_append_left (by simp [hd];omega),<-h3];rw [show 3+2*l.length=2*l.length+1+1+1 by omega,List.getElem?_cons_succ,List.getElem?_cons_succ,List.getElem?_append_right (by omega),hd,show 2*l.length+1-2*l.length=1 by omega];rfl
 rw [if_neg h3];by_cases h2:2+2*l.length=j
 ·rw [if_pos h2,if_pos (by omega),List.getElem?_append_left (by simp [hd];omega),<-h2];rw [show 2+2*l.length=2*l.length+1+1 by omega,List.getElem?_cons_succ,List.getElem?_cons_succ,List.getElem?_append_right (by omega),hd,Nat.sub_self];rfl
 rw [if_neg h2];by_cases h1:1=j
 ·rw [if_pos h1,if_pos (by omega),<-h1];rfl
 rw [if_neg h1];unfold ip;by_cases hlo:j<2+2*l.length
 ·
   rw [List.append_assoc,List.getElem?_append_left (by rw [lK,List.length_set,hb];omega),List.getElem?_take,if_pos (by omega),List.getElem?_append_left (by simp [hd];omega)];rw [List.getElem?_set];by_cases h0:0=j
   ·rw [if_pos h0,if_pos (by omega),<-h0];rfl
   ·rw [if_neg h0,e1,List.getElem?_append_left (by simp [hd];omega)]
    obtain ⟨m,rfl⟩:∃ m,j=m+1+1:=⟨j-2,by omega⟩
    rw [List.getElem?_cons_succ,List.getElem?_cons_succ,List.getElem?_cons_succ,List.getElem?_cons_succ,List.getElem?_append_left (by omega)]
 ·by_cases hg:j<243-ah l-c.length
  ·
    rw [List.append_assoc,List.getElem?_append_left (by rw [lK,List.length_set,hb];omega),List.getElem?_take,if_pos hg,List.getElem?_set,if_neg (by omega),e1,List.getElem?_append_right (by simp [hd];omega),List.getElem?_append_left (by simp [hd];omega),List.getElem?_replicate,if_pos (by simp [hd];omega)];rw [List.getElem?_append_right (by simp [hd];omega),List.getElem?_append_left (by simp [hd];omega),List.getElem?_replicate,if_pos (by simp [hd];omega)]
  ·
    have hlen2:(UInt8.ofNat (l.length+1)::UInt8.ofNat (243-ah l-c.length)::(dZ 243 l++[UInt8.ofNat (243-ah l-c.length),UInt8.ofNat c.length])).length=2+2*(l.length+1):=by simp [hd];omega
    have hj2:j-(2+2*(l.length+1))-(243-ah l-c.length-(2+2*(l.length+1)))=j-(243-ah l-c.length):=by omega
    have eR:((UInt8.ofNat (l.length+1)::UInt8.ofNat (243-ah l-c.length)::(dZ 243 l++[UInt8.ofNat (243-ah l-c.length),UInt8.ofNat c.length]))++(List.replicate (243-ah l-c.length-(2+2*(l.length+1))) 0++(c++ii l)))[j]?=(c++ii l)[j-(243-ah l-c.length)]?:=by
     rw [List.getElem?_append_right (by omega),hlen2,List.getElem?_append_right (by rw [List.length_replicate];omega),List.length_replicate,hj2]
    rw [eR]
    have htk:(((ar l).set 0 (UInt8.ofNat (l.length+1))).take (243-ah l-c.length)).length=243-ah l-c.length:=by rw [lK,List.length_set,hb];omega
    rw [List.append_assoc,List.getElem?_append_right (by omega),htk];congr 2;rw [show 243-ah l-c.length+c.length=243-ah l by omega,List.drop_set_of_lt (by omega),e1];rw [<-List.append_assoc];exact o5 (by simp [hd];omega)
theorem SB.drew {w:World} {s:Nat} {b:List UInt8} (h:SB w s b):SB w.drew s b:=h
theorem Es (b:List UInt8) (k:Nat):ip b k []=b:=by unfold ip;simp
theorem nu {B:Nat} {w:World} {s:Nat} {l:List (List UInt8)} (hS:SB w s (ar l)) (A:Option Addr) (cc:Nat) (c:List UInt8) (hr:Reads w B 1 A c.length (bl c)) (hB:B<=w.heap.size) (hA:∀ ad,A=some ad->ad.block≠s) (h0:0<c.length) (h78:c.length<=78) (h:2+2*(l.length+1)+(ah l+c.length)<=243) :
 Calls Tryz.prog 117 #[.pointer (some ⟨s,0,none⟩),.int .i64 l.length,.slice A c.length cc] w fun e w'=>e=.returned (.int .i64 0)/\SB w' s (ar (l++[c]))/\Fr (fun k=>k=s) w w':=by
 have hlb:=Cq h;have hS0:=oB (l:=l) (by omega);have hS1:=Er (l:=l) (by omega);have hL:=cX hS;have hF:=Aq hS (by omega);rw [hS0] at hL
 obtain ⟨n,HN⟩:∃ n,Hid (l.length=n):=⟨_,lH rfl⟩
 obtain ⟨m,HM⟩:∃ m,Hid (ah l=m):=⟨_,lH rfl⟩
 obtain ⟨k,HK⟩:∃ k,Hid (c.length=k):=⟨_,lH rfl⟩
 rw [HN.out] at hL hF h hlb ⊢;rw [HM.out] at hF h hlb hS1;rw [HK.out] at h h0 h78 hr ⊢;have hD0:=fun W=>gp n (by omega) W;have hD1:=fun W=>gp (n+1) (by omega) W;rw [show ((n+1:Nat):Int)=(n:Int)+1 by omega] at hD1
 obtain ⟨e0,E0⟩:∃ x,Hid (2+2*n=x):=⟨_,lH rfl⟩
 obtain ⟨e1,E1⟩:∃ x,Hid (2+2*(n+1)=x):=⟨_,lH rfl⟩
 rw [E0.out] at hD0 hF;rw [E1.out] at hD1 h
 have he3:e1<=242:=by have:=E1.out;omega
 have he4:e0<=240:=by have:=E1.out;have:=E0.out;omega
 have HE:Hid (e1 % 2=0/\e0 % 2=0/\e1=e0+2):=lH (by have:=E1.out;have:=E0.out;omega)
 have he2:n<=120:=by have:=E1.out;omega
 obtain ⟨fr,FR⟩:∃ x,Hid (243-e0-m=x):=⟨_,lH rfl⟩
 rw [FR.out] at hF
 have hfr:2+k<=fr:=by have:=FR.out;have:=HE.out;omega
 obtain ⟨tp,TP⟩:∃ x,Hid (243-m=x):=⟨_,lH rfl⟩
 rw [TP.out] at hlb hS1
 have htp:e1+k<=tp:=by have:=TP.out;have:=HE.out;omega
 have htp2:tp<=243:=by have:=TP.out;omega
 have g1:decide ((n:Int)<0)=false:=dF (by omega);have g2:decide ((n:Int)<(n:Int))=false:=dF (by omega);have g3:decide (78<(k:Int))=false:=dF (by omega);have g4:decide ((fr:Int)<2+(k:Int))=false:=dF (by omega);have g5:decide ((tp:Int)-(e1:Int)<(k:Int))=false:=dF (by omega);have hbl:(ar l).length=243:=hS.2;have H:=lH (aI hS (aI hr (aI hlb (aI hS0 (aI hS1 hbl)))));clear hS hr hlb hS0 hS1 hbl;go_enter Tryz.func117,Tryz.ntmps117
 go_wp2_with (first
  | (go_at_call 111;refine hL.mono ?_;rintro e w1 ⟨rfl,rfl⟩)
  | (go_at_call 148;refine hF.mono ?_;rintro e w1 ⟨rfl,hb1⟩;have hT:=pc (H.out.1.below hb1 H.out.1.lt);rw [H.out.2.2.2.2.1] at hT)
  | (go_at_call 149;refine hT.mono ?_;rintro e w2 ⟨rfl,rfl⟩)
  | (go_at_call 144;refine (hD1 _).mono ?_;rintro e w2 ⟨rfl,rfl⟩))
 have hS1:=H.out.1.below hb1 H.out.1.lt
 have a0:(0:Int)<=(e1:Int):=by omega
 have a1:(e1:Int)<=243:=by omega
 have a2:(0:Int)<=(e0:Int):=by omega
 have a3:(e0:Int)<=243:=by omega
 have a4:¬ (243=e1):=by have:=HE.out;omega
 have a5:¬ (243=e0):=by have:=HE.out;omega
 have a6:IntKind.i64.wrap ((n:Int)+1)=(n:Int)+1:=by rw [IntKind.wrap_i64];omega
 have hl0:(ar l).length=243:=H.out.2.2.2.2.2;clear hL hF hT g1 g2 g3 g4 g5;refine bB 18 (fun _=>True) (trivial) (fun hHeld hTl=>?_);refine ae 0 hTl hHeld (fun hTl=>?_)
 try simp only [pT]
 refine ae 1 hTl hHeld (fun hTl=>?_)
 try simp only [pT]
 refine ae 2 hTl hHeld (fun hTl=>?_)
 try simp only [pT]
 refine ae 3 hTl hHeld (fun hTl=>?_)
 try simp only [pT]
 refine ae 4 hTl hHeld (fun hTl=>?_)
 try simp only [pT]
 refine ae 6 hTl hHeld (fun hTl=>?_)
 try simp only [pT]
 refine ae 7 hTl hHeld (fun hTl=>?_)
 try simp only [pT]
 refine ae 10 hTl hHeld (fun hTl=>?_)
 try simp only [pT]
 refine ae 11 hTl hHeld (fun hTl=>?_)
 try simp only [pT]
 refine ae 12 hTl hHeld (fun hTl=>?_)
 try simp only [pT]
 refine ae 13 hTl hHeld (fun hTl=>?_)
 try simp only [pT]
 refine ae 15 hTl hHeld (fun hTl=>?_)
 try simp only [pT]
 have hTl2:=hTl.step 5 (by kernel_rfl) (by decide);clear hTl;refine sP 5 (hD1 _) ?_;rintro e w5 ⟨rfl,rfl⟩;refine ⟨_,rfl,(fun _=>trivial),?_⟩
 try simp only [pT]
 have hTl:=hTl2;clear hTl2;have hTl2:=hTl.step 8 (by kernel_rfl) (by decide);clear hTl;refine sP 8 (hD1 _) ?_;rintro e w5 ⟨rfl,rfl⟩;refine ⟨_,rfl,(fun _=>trivial),?_⟩
 try simp only [pT]
 have hTl:=hTl2;clear hTl2;refine ae 9 hTl hHeld (fun hTl=>?_)
 try simp only [pT]
 have hTl2:=hTl.step 14 (by kernel_rfl) (by decide);clear hTl;refine sP 14 (hD0 _) ?_;rintro e w5 ⟨rfl,rfl⟩;refine ⟨_,rfl,(fun _=>trivial),?_⟩
 try simp only [pT]
 have hTl:=hTl2;clear hTl2;have hTl2:=hTl.step 16 (by kernel_rfl) (by decide);clear hTl;refine sP 16 (hD0 _) ?_;rintro e w5 ⟨rfl,rfl⟩;refine ⟨_,rfl,(fun _=>trivial),?_⟩
 try simp only [pT]
 have hTl:=hTl2;clear hTl2;refine ae 17 hTl hHeld (fun hTl=>?_)
 try simp only [pT]
 clear hTl;refine aA 18 (fun K hK=>?_);refine pb (B:=0) rfl (.tmp 53) (.tmp 61) rfl rfl rfl s e1 254 (ar l) [] hS1.1 rfl ⟨by simp [bl],fun h=>absurd h (by omega)⟩ (zL _) (by omega) ?_;intro w2 bG2 hb2;refine hK.out _ _ (fun h=>absurd h (by decide)) ?_;clear hK K
 try simp only [pT]
 refine cW ?_ _;rw [Es] at bG2
 have S2:SB w2 s (ar l):=⟨bG2,hl0⟩
 have c0:w2.drew.cell? ⟨s,0,none⟩=some (.int .u8 (n:Nat)):=by have:=S2.cell (i:=0) (by omega);rw [H.out.2.2.2.1,HN.out] at this;exact this
 have f0:w2.drew.frozen? ⟨s,0,none⟩=false:=S2.1.frozen 0
 have hwn:IntKind.u8.wrap ((n:Int)+1)=(n:Int)+1:=by rw [IntKind.wrap_u8];omega
 go_wp2;refine bB 9 (fun W0=>W0.cell? ⟨s,0,none⟩=some (.int .u8 (n:Nat))) (c0) (fun hHeld hTl=>?_);refine ae 0 hTl hHeld (fun hTl=>?_)
 try simp only [pT]
 refine ae 1 hTl hHeld (fun hTl=>?_)
 try simp only [pT]
 refine ae 2 hTl hHeld (fun hTl=>?_)
 try simp only [pT]
 refine ae 3 hTl hHeld (fun hTl=>?_)
 try simp only [pT]
 refine ae 4 hTl hHeld (fun hTl=>?_)
 try simp only [pT]
 refine ae 5 hTl hHeld (fun hTl=>?_)
 try simp only [pT]
 refine ae 6 hTl hHeld (fun hTl=>?_)
 try simp only [pT]
 refine ae 7 hTl hHeld (fun hTl=>?_)
 try simp only [pT]
 refine ae 8 hTl hHeld (fun hTl=>?_)
 try simp only [pT]
 clear hTl;refine az 9 (fun K hK=>?_);go_simp;refine hK.out _ _ ?_;clear hK K
 try simp only [pT]
 refine cW ?_ _;have S3:=S2.drew.set_ 0 (n+1) (by omega);have hb12:Fr (fun k=>k=s) w w2:=(Fr.of_below hb1).trans ((Fr.refl _ w1).drew.trans hb2);have hb3:Fr (fun k=>k=s) w (w2.drew.setCell ⟨s,0,none⟩ (.int .u8 ((n+1:Nat):Int))):=hb12.drew.setCell (p:=⟨s,0,none⟩) (.inr rfl) _
 have e8:((n:Int)+1)=((n+1:Nat):Int):=by omega
 rw [e8]
 obtain ⟨w3,hw3⟩:∃ w3,w3=w2.drew.setCell ⟨s,0,none⟩ (.int .u8 ((n+1:Nat):Int)):=⟨_,rfl⟩
 rw [<-hw3] at S3 hb3
 have hl1:(((ar l).set 0 (UInt8.ofNat (n+1))).getD 1 0).toNat=tp:=by
  rw [<-H.out.2.2.2.2.1];simp [List.getD_eq_getElem?_getD,List.getElem?_set]
 have hrw:Reads w3 B 1 A k (bl c):=iX H.out.2.1 hb3 hB hA;have hLay:=Cp (B:=B) S3 n tp hl1 htp2 (by have:=E1.out;omega) A cc c (by rw [HK.out];exact hrw) (nT hB hb3.size) (by rw [HK.out];omega) (by rw [HK.out];omega) (by rw [HK.out];omega);rw [HK.out,H.out.2.2.1] at hLay;have HW3:=lH hw3;clear c0 f0 S2 S3 bG2 hS1 hw3 hl1 hrw hD0 hD1 a0 a1 a2 a3 a4 a5 a6 hwn e8 hl0;rw [show (w2.setCell ⟨s,0,none⟩ (.int .u8 ((n+1:Nat):Int))).drew=w3 from HW3.out.symm]
 go_wp2_with (go_at_call 151;refine hLay.mono ?_;rintro e w4 ⟨rfl,hS4,hf4⟩)
 go_ret;exact ⟨rfl,hS4,hb3.trans hf4⟩
theorem u0 {w:World} {s:Nat} {b:List UInt8} (h:SB w s b) {off n:Nat} (hn:off+n<=243):Reads w w.heap.size 1 (some ⟨s,off,none⟩) n (bl ((b.drop off).take n)):=by
 have hb:=h.2;refine ⟨by rw [aF,lK,lD];omega,fun h0=>⟨_,rfl,h.lt,fun j u hu=>?_⟩⟩
 have hj:j<n:=by have:=(lS.1 hu).1;rw [aF,lK] at this;omega
 rw [show (⟨s,off,none⟩:Addr).add j=⟨s,off+j,none⟩ by unfold Addr.add;split <;> simp_all,h.1.cell];unfold bl at hu ⊢;rw [List.getElem?_map,List.getElem?_take,if_pos hj,List.getElem?_drop] at hu
 simpa using hu
def kf (l:List (List UInt8)) (k:Nat):List UInt8:=(ar l).take (2+2*l.length)++(zB (243-ah (l.take k)-(2+2*l.length))++(ar l).drop (243-ah (l.take k)))
theorem xg {l:List (List UInt8)} (h:2+2*l.length+ah l<=243):ar l=(ar l).take (2+2*l.length)++(zB (243-ah l-(2+2*l.length))++(ar l).drop (243-ah l)):=by
 have hd:=dO 243 l
 have e1:ar l=(UInt8.ofNat l.length::UInt8.ofNat (243-ah l)::dZ 243 l)++(zB (243-ah l-(2+2*l.length))++ii l):=by unfold ar zB;simp
 have hl:(UInt8.ofNat l.length::UInt8.ofNat (243-ah l)::dZ 243 l).length=2+2*l.length:=by simp [hd];omega
 have ht:(ar l).take (2+2*l.length)=UInt8.ofNat l.length::UInt8.ofNat (243-ah l)::dZ 243 l:=by
  rw [e1];exact uS hl
 have hdr:(ar l).drop (243-ah l)=ii l:=by
  rw [e1,<-List.append_assoc];exact o5 (by rw [lQ,hl,gC];omega)
 rw [ht,hdr];exact e1
theorem Cs {l:List (List UInt8)} (h:2+2*l.length+ah l<=243):kf l l.length=ar l:=by
 unfold kf;rw [List.take_length,<-xg h]
theorem F7 {l:List (List UInt8)} (h:2+2*l.length+ah l<=243):ip (zB 243) 0 ((ar l).take (2+2*l.length))=kf l 0:=by
 have hb:=fw h;unfold ip kf
 have hl:((ar l).take (2+2*l.length)).length=2+2*l.length:=by rw [lK,hb];omega
 rw [hl,List.take_zero,List.nil_append,List.take_zero];simp only [show ah []=0 from rfl,Nat.sub_zero];rw [List.drop_of_length_le (show (ar l).length<=243 by omega),List.append_nil];unfold zB;rw [List.drop_replicate];congr 2;omega
theorem Ct {l:List (List UInt8)} (h:2+2*l.length+ah l<=243) (k:Nat):(kf l k).length=243:=by
 have hb:=fw h;have:=bY l k;unfold kf;rw [lQ,lQ,lK,gC,lD,hb];omega
theorem Ar {l:List (List UInt8)} (h:2+2*l.length+ah l<=243) {k:Nat} (hk:k<l.length):ip (kf l k) (243-ah (l.take k)-l[k].length) (((ar l).drop (243-ah (l.take k)-l[k].length)).take l[k].length)=kf l (k+1):=by
 have hb:=fw h;have hle:=bY l (k+1);have hsc:=gQ hk;rw [hsc] at hle
 have hlt:(((ar l).drop (243-ah (l.take k)-l[k].length)).take l[k].length).length=l[k].length:=by rw [lK,lD,hb];omega
 have h1:((ar l).take (2+2*l.length)).length=2+2*l.length:=by rw [lK,hb];omega
 unfold ip;rw [hlt]
 have ht:(kf l k).take (243-ah (l.take k)-l[k].length)=(ar l).take (2+2*l.length)++zB (243-ah (l.take k)-l[k].length-(2+2*l.length)):=by
  unfold kf;rw [List.take_append,List.take_of_length_le (by omega),h1,List.take_append_of_le_length (by rw [gC];omega)];congr 1;unfold zB;rw [List.take_replicate];congr 1;omega
 have hd:(kf l k).drop (243-ah (l.take k)-l[k].length+l[k].length)=(ar l).drop (243-ah (l.take k)):=by
  unfold kf;rw [<-List.append_assoc];exact o5 (by rw [lQ,h1,gC];omega)
 rw [ht,hd];unfold kf;rw [hsc,List.append_assoc,List.append_assoc];congr 1;rw [show 243-(ah (l.take k)+l[k].length)=243-ah (l.take k)-l[k].length by omega];congr 1
 have:(ar l).drop (243-ah (l.take k))=((ar l).drop (243-ah (l.take k)-l[k].length)).drop l[k].length:=by
  rw [List.drop_drop];congr 1;omega
 rw [this,List.take_append_drop]
theorem pd {w:World} {s:Nat} {l:List (List UInt8)} (hS:SB w s (ar l)) (hl:2+2*l.length+ah l<=243) (h0:∀ c∈l,0<c.length) :
 Calls Tryz.prog 118 #[.pointer (some ⟨s,0,none⟩)] w fun e w'=>∃ g,e=.returned (.slice (some ⟨g,0,none⟩) 243 243)/\w.heap.size<=g/\aa w' g 5 (bl (ar l)).toArray/\Below w.heap.size w w':=by
 have hm:∀ W:World,(Instr.makeSlice 23 (.int .i64 243) (.int .i64 243)).run Tryz.prog W=.ok (.slice (some ⟨W.heap.size,0,none⟩) 243 243) (W.alloc (.cells (bl (zB 243)).toArray 5)):=fun W=>sU 243 (by omega) W;have hS0:=oB hl
 obtain ⟨w1,hw1⟩:∃ w1,w1=w.alloc (.cells (bl (zB 243)).toArray 5):=⟨_,rfl⟩
 have hb1:Below w.heap.size w w1:=by rw [hw1];exact (bR _ w).alloc (nR _) _
 have bG1:aa w1 w.heap.size 5 (bl (zB 243)).toArray:=by rw [hw1];exact aa.new _ _ _
 have hL1:=cX ((hS.below hb1 hS.lt).drew);rw [hS0] at hL1;have hD:=fun W=>gp l.length (by omega) W
 obtain ⟨e,E⟩:∃ x,Hid (2+2*l.length=x):=⟨_,lH rfl⟩
 rw [E.out] at hD
 have he:e<=243:=by have:=E.out;omega
 have H:=lH (aI hS (aI hl (aI h0 hS0)));have HW1:=lH hw1
 have n0:l.length<=120:=by omega
 clear hS hl h0 hS0 hw1;go_enter Tryz.func118,Tryz.ntmps118;go_wp2;rw [<-HW1.out]
 have a0:(0:Int)<=(e:Int):=by omega
 have a1:(e:Int)<=243:=by omega
 refine bB 8 (fun _=>True) (trivial) (fun hHeld hTl=>?_);refine ae 0 hTl hHeld (fun hTl=>?_)
 try simp only [pT]
 refine ae 1 hTl hHeld (fun hTl=>?_)
 try simp only [pT]
 refine ae 2 hTl hHeld (fun hTl=>?_)
 try simp only [pT]
 refine ae 3 hTl hHeld (fun hTl=>?_)
 try simp only [pT]
 refine ae 4 hTl hHeld (fun hTl=>?_)
 try simp only [pT]
 have hTl2:=hTl.step 5 (by kernel_rfl) (by decide);clear hTl;refine sP 5 hL1 ?_;rintro e w5 ⟨rfl,rfl⟩;refine ⟨_,rfl,(fun _=>trivial),?_⟩
 try simp only [pT]
 have hTl:=hTl2;clear hTl2;have hTl2:=hTl.step 6 (by kernel_rfl) (by decide);clear hTl;refine sP 6 (hD _) ?_;rintro e w5 ⟨rfl,rfl⟩;refine ⟨_,rfl,(fun _=>trivial),?_⟩
 try simp only [pT]
 have hTl:=hTl2;clear hTl2;refine ae 7 hTl hHeld (fun hTl=>?_)
 try simp only [pT]
 clear hTl;have hrd:=u0 (off:=0) (n:=e) ((H.out.1.below hb1 H.out.1.lt).drew) (by omega);rw [List.drop_zero] at hrd;refine aA 8 (fun K hK=>?_);refine pb rfl (.tmp 10) (.tmp 17) rfl rfl rfl w.heap.size 0 5 (zB 243) ((ar l).take e) bG1.drew rfl hrd (by omega) (by rw [gC];omega) ?_;intro w2 bG2 hf2;refine hK.out _ _ (fun h=>absurd h (by decide)) ?_;clear hK K
 try simp only [pT]
 refine cW ?_ _;have hb2:Below w.heap.size w w2:=hb1.drew.trans (hf2.below hb1.drew.size (fun k hk=>by omega));have hL2:=cX (H.out.1.below hb2 H.out.1.lt);rw [H.out.2.2.2] at hL2
 have hout:ip (zB 243) 0 ((ar l).take e)=kf l 0:=by rw [<-E.out];exact F7 H.out.2.1
 rw [hout] at bG2;clear hout hrd bG1 hL1 hD
 go_wp2_with (go_at_call 111;refine hL2.mono ?_;rintro e w3 ⟨rfl,rfl⟩)
 go_loopw [21] (fun i wr=>∃ k:Nat,k<=l.length/\i=.int .i64 k/\aa wr w.heap.size 5 (bl (kf l k)).toArray/\Below w.heap.size w wr) (fun i _=>l.length-(intOf i).toNat)
 case atStart=>exact ⟨0,zL _,rfl,bG2,hb2⟩
 case round =>
  clear bG2 hb2;obtain ⟨k,hk,rfl,bG,hb⟩:=hrel
  obtain ⟨wo,rfl⟩:∃ wo,wo=wr:=⟨wr,rfl⟩
  by_cases hlt:k<l.length
  ·have d1:decide (k<l.length)=true:=dT hlt;have hl:=H.out.2.1;have hle:=bY l (k+1);have hsc:=gQ hlt;have hP:=jE (H.out.1.below hb H.out.1.lt) k (by omega);obtain ⟨e1,e2⟩:=uZ hl hlt;rw [e1,e2] at hP;rw [hsc] at hle;have hstep:=Ar hl hlt;have hpos:=H.out.2.2.1 l[k] (List.getElem_mem hlt)
   obtain ⟨m,HM⟩:∃ m,Hid (ah (l.take k)=m):=⟨_,lH rfl⟩
   obtain ⟨n,HN⟩:∃ n,Hid (l[k].length=n):=⟨_,lH rfl⟩
   rw [HM.out,HN.out] at hP hle hstep;rw [HN.out] at hpos
   have hsl:m+n+(2+2*l.length)<=243:=by omega
   obtain ⟨at',HA⟩:∃ x,Hid (243-m-n=x):=⟨_,lH rfl⟩
   rw [HA.out] at hP hstep
   have ha1:at'+n<=243:=by have:=HA.out;omega
   have HST:=lH hstep
   have z0:((n:Int)==0)=false:=by simp;omega
   have a2:(0:Int)<=(at':Int):=by omega
   have a3:(at':Int)<=(at':Int)+(n:Int):=by omega
   have a4:(at':Int)+(n:Int)<=243:=by omega
   have a5:¬ (243=at'):=by omega
   have a6:IntKind.i64.wrap ((at':Int)+(n:Int))=(at':Int)+(n:Int):=by rw [IntKind.wrap_i64];omega
   have a7:((at':Int)+(n:Int)).toNat=at'+n:=by omega
   have hol:=Ct hl k;have HB:=lH (aI bG (aI hb hol));clear hsc e1 e2 hstep hl hle bG hol
   go_wp2_with (go_at_call 146;refine hP.mono ?_;rintro e w2 ⟨rfl,hb2⟩)
   have bG4:=HB.out.1.below hb2 HB.out.1.lt;have hb4:=HB.out.2.1.trans (hb2.mono HB.out.2.1.size);have hrd:=u0 (off:=at') (n:=n) ((H.out.1.below hb4 H.out.1.lt).drew) (by omega);refine bB 14 (fun _=>True) (trivial) (fun hHeld hTl=>?_);refine ae 0 hTl hHeld (fun hTl=>?_)
   try simp only [pT]
   refine ae 1 hTl hHeld (fun hTl=>?_)
   try simp only [pT]
   refine ae 2 hTl hHeld (fun hTl=>?_)
   try simp only [pT]
   refine ae 3 hTl hHeld (fun hTl=>?_)
   try simp only [pT]
   refine ae 4 hTl hHeld (fun hTl=>?_)
   try simp only [pT]
   refine ae 5 hTl hHeld (fun hTl=>?_)
   try simp only [pT]
   refine ae 6 hTl hHeld (fun hTl=>?_)
   try simp only [pT]
   refine ae 7 hTl hHeld (fun hTl=>?_)
   try simp only [pT]
   refine ae 8 hTl hHeld (fun hTl=>?_)
   try simp only [pT]
   refine ae 9 hTl hHeld (fun hTl=>?_)
   try simp only [pT]
   refine ae 10 hTl hHeld (fun hTl=>?_)
   try simp only [pT]
   refine ae 11 hTl hHeld (fun hTl=>?_)
   try simp only [pT]
   refine ae 12 hTl hHeld (fun hTl=>?_)
   try simp only [pT]
   refine ae 13 hTl hHeld (fun hTl=>?_)
   try simp only [pT]
   clear hTl;refine aA 14 (fun K hK=>?_);refine pb rfl (.tmp 46) (.tmp 54) rfl rfl rfl w.heap.size at' 5 (kf l k) (((ar l).drop at').take n) bG4.drew rfl hrd (nR _) (by rw [HB.out.2.2];omega) ?_;intro w5 bG5 hf5;refine hK.out _ _ (fun h=>absurd h (by decide)) ?_;clear hK K
   try simp only [pT]
   refine cW ?_ _;rw [HST.out] at bG5;have hb5:Below w.heap.size w w5:=hb4.drew.trans (hf5.below hb4.drew.size (fun k hk=>by omega));clear hrd bG4;go_wp2
   go_roundw
   case rel=>exact ⟨k+1,by omega,by go_num,bG5,hb5⟩
   case measure=>simp [intOf];omega
  ·have d1:decide (k<l.length)=false:=dF hlt
   obtain rfl:k=l.length:=by omega
   rw [Cs H.out.2.1] at bG;have HB:=lH bG;clear bG;go_wp2;go_ret;exact ⟨_,rfl,nR _,HB.out,hb⟩
def iY (kl:Nat) (size:Int) (vl over kid:Nat):Bool:=decide (1<=kl/\kl<=24/\0<=size/\size<=1000/\kid=0/\(size<=40->(vl:Int)=size/\over=0)/\(40<size->vl=0/\0<over))
def mL (kl:Nat) (size:Int) (vl over kid:Nat):Bool:=decide (kl<=24/\0<kid/\size=0/\over=0/\vl=0)
theorem lz {a b:Bool} (h:a=b):Ending.returned (.bool a)=.returned (.bool b):=by rw [h]
def cellV (ka:Option Addr) (kl kc:Nat) (size:Int) (va:Option Addr) (vl vc over kid:Nat):Value:=.agg #[.slice ka kl kc,.int .i64 size,.slice va vl vc,.int .u32 over,.int .u32 kid]
theorem kN (ka:Option Addr) (kl kc:Nat) (size:Int) (va:Option Addr) (vl vc over kid:Nat) (w:World) :
 Calls Tryz.prog 152 #[cellV ka kl kc size va vl vc over kid] w fun e w'=>e=.returned (.bool (iY kl size vl over kid))/\Below w.heap.size w w':=by
 unfold cellV
 rcases Nat.lt_or_ge 24 kl with h1 | h1 <;> rcases Nat.eq_zero_or_pos kid with h2 | h2
 ·have d1:decide ((kl:Int)<=24)=false:=by simp;omega
  have d2:((kid:Int) != 0)=false:=by simp;omega
  go_enter Tryz.func152,Tryz.ntmps152;go_wp2
  all_goals
   go_ret;refine ⟨lz ?_,(bR _ _).alloc (nR _) _⟩;unfold iY
   first
    | (rw [Bool.eq_iff_iff];simp only [decide_eq_true_eq,beq_iff_eq,Bool.false_eq_true,false_iff];omega)
    | (rw [Bool.eq_iff_iff];simp only [decide_eq_true_eq,beq_iff_eq,Bool.false_eq_true,false_iff,Bool.and_eq_true,bne_iff_ne];omega)
    | (rw [Bool.eq_iff_iff];simp;omega)
 ·have d1:decide ((kl:Int)<=24)=false:=by simp;omega
  have d2:((kid:Int) != 0)=true:=by simp;omega
  go_enter Tryz.func152,Tryz.ntmps152;go_wp2
  all_goals
   go_ret;refine ⟨lz ?_,(bR _ _).alloc (nR _) _⟩;unfold iY
   first
    | (rw [Bool.eq_iff_iff];simp only [decide_eq_true_eq,beq_iff_eq,Bool.false_eq_true,false_iff];omega)
    | (rw [Bool.eq_iff_iff];simp only [decide_eq_true_eq,beq_iff_eq,Bool.false_eq_true,false_iff,Bool.and_eq_true,bne_iff_ne];omega)
    | (rw [Bool.eq_iff_iff];simp;omega)
 ·have d1:decide ((kl:Int)<=24)=true:=by simp;omega
  have d2:((kid:Int) != 0)=false:=by simp;omega
  go_enter Tryz.func152,Tryz.ntmps152;go_wp2
  all_goals
   go_ret;refine ⟨lz ?_,(bR _ _).alloc (nR _) _⟩;unfold iY
   first
    | (rw [Bool.eq_iff_iff];simp only [decide_eq_true_eq,beq_iff_eq,Bool.false_eq_true,false_iff];omega)
    | (rw [Bool.eq_iff_iff];simp only [decide_eq_true_eq,beq_iff_eq,Bool.false_eq_true,false_iff,Bool.and_eq_true,bne_iff_ne];omega)
    | (rw [Bool.eq_iff_iff];simp;omega)
 ·have d1:decide ((kl:Int)<=24)=true:=by simp;omega
  have d2:((kid:Int) != 0)=true:=by simp;omega
  go_enter Tryz.func152,Tryz.ntmps152;go_wp2
  all_goals
   go_ret;refine ⟨lz ?_,(bR _ _).alloc (nR _) _⟩;unfold iY
   first
    | (rw [Bool.eq_iff_iff];simp only [decide_eq_true_eq,beq_iff_eq,Bool.false_eq_true,false_iff];omega)
    | (rw [Bool.eq_iff_iff];simp only [decide_eq_true_eq,beq_iff_eq,Bool.false_eq_true,false_iff,Bool.and_eq_true,bne_iff_ne];omega)
    | (rw [Bool.eq_iff_iff];simp;omega)
theorem nv (ka:Option Addr) (kl kc:Nat) (size:Int) (va:Option Addr) (vl vc over kid:Nat) (w:World) :
 Calls Tryz.prog 156 #[cellV ka kl kc size va vl vc over kid] w fun e w'=>e=.returned (.bool (mL kl size vl over kid))/\Below w.heap.size w w':=by
 unfold cellV;go_enter Tryz.func156,Tryz.ntmps156;go_wp2
 all_goals
  go_ret;refine ⟨lz ?_,(bR _ _).alloc (nR _) _⟩;unfold mL
  first
   | (rw [Bool.eq_iff_iff];simp only [decide_eq_true_eq,beq_iff_eq,Bool.false_eq_true,false_iff];omega)
   | (rw [Bool.eq_iff_iff];simp only [decide_eq_true_eq,beq_iff_eq,Bool.false_eq_true,false_iff,Bool.and_eq_true,bne_iff_ne];omega)
   | (rw [Bool.eq_iff_iff];simp;omega)
theorem gi {P:Program} {ops:Array Oper} {Q:Exit->Act->World->Prop} {md:Region.Mode} {S:World->Prop} {n:Nat} {listed:Array Bool} (i j:Nat) {oi oj:Oper} {fuel:Nat} {a:Act} {w:World} (hi:ops.toList[i]?=some oi) (hj:ops.toList[j]?=some oj) (hr:Region.ready md ops listed=[i,j])
 (h1:∀ K':Act->World->Prop,Shut (∀ a w,(i<n->S w)->be P md ops Q S n fuel (listed.setIfInBounds i true) a w->K' a w)->if Region.wanted oi (yielded ops a.tmps)=true then Oper.wp P oi a w K' Q else K' (a.put oi.dst undef) w)
 (h2:∀ K':Act->World->Prop,Shut (∀ a w,(j<n->S w)->be P md ops Q S n fuel (listed.setIfInBounds j true) a w->K' a w)->if Region.wanted oj (yielded ops a.tmps)=true then Oper.wp P oj a w K' Q else K' (a.put oj.dst undef) w) :
 be P md ops Q S n (fuel+1) listed a w:=by
 have hi':ops[i]?=some oi:=by rw [<-Array.getElem?_toList];exact hi
 have hj':ops[j]?=some oj:=by rw [<-Array.getElem?_toList];exact hj
 refine ⟨fun h0=>absurd (hr ▸ h0) (by simp),fun k hk=>?_⟩;rw [hr] at hk
 rcases List.mem_cons.1 hk with rfl | hk
 ·exact wpOp_step hi' (fun K' hK=>h1 K' (fun a w hS hW=>hK a w ⟨hS,hW⟩))
 ·obtain rfl:=List.mem_singleton.1 hk;exact wpOp_step hj' (fun K' hK=>h2 K' (fun a w hS hW=>hK a w ⟨hS,hW⟩))
theorem jF (w:World) (ka:Option Addr) (kl kc:Nat) (size:Int) (va:Option Addr) (vl vc over kid:Nat) :
 aa (w.alloc (.cells #[.slice ka kl kc,.int .i64 size,.slice va vl vc,.int .u32 over,.int .u32 kid] 117)) w.heap.size 117 #[.slice ka kl kc,.int .i64 size,.slice va vl vc,.int .u32 over,.int .u32 kid]:=aa.new _ _ _
theorem Hr {w:World} {A1 A2 A3:Option Addr} {c1 c2 c3:Nat} {b1 b2 b3:List UInt8} (h1:Reads w w.heap.size 1 A1 b1.length (bl b1)) (h2:Reads w w.heap.size 1 A2 b2.length (bl b2)) (h3:Reads w w.heap.size 1 A3 b3.length (bl b3)) (hs:(b1++(b2++b3)).length<=3000000) :
 Calls Tryz.prog 147 #[.slice (some ⟨w.heap.size,0,none⟩) 3 3] (w.alloc (.cells #[.slice A1 b1.length c1,.slice A2 b2.length c2,.slice A3 b3.length c3] 23)) fun e w'=>∃ v,e=.returned v/\w'.ownsRow w.heap.size 5 1 v (b1++(b2++b3)).length (bl (b1++(b2++b3)))/\Below w.heap.size w w':=by
 have hcat:fA [⟨A1,c1,b1⟩,⟨A2,c2,b2⟩,⟨A3,c3,b3⟩]=b1++(b2++b3):=by simp [fA]
 have hba:Below w.heap.size w (w.alloc (.cells #[.slice A1 b1.length c1,.slice A2 b2.length c2,.slice A3 b3.length c3] 23)):=(bR _ w).alloc (nR _) _
 have hC:=ik (B:=w.heap.size) w.heap.size 3 [⟨A1,c1,b1⟩,⟨A2,c2,b2⟩,⟨A3,c3,b3⟩] (w.alloc (.cells #[.slice A1 b1.length c1,.slice A2 b2.length c2,.slice A3 b3.length c3] 23)) (by simp) (fun k p hk=>by
  have hbk:=aa.new w 23 #[.slice A1 b1.length c1,.slice A2 b2.length c2,.slice A3 b3.length c3];rw [hbk.cell]
  rcases k with _ | _ | _ | k
  ·cases hk;rfl
  ·cases hk;rfl
  ·cases hk;rfl
  ·simp at hk) (fun p hp=>by
  simp only [List.mem_cons,List.not_mem_nil,or_false] at hp
  rcases hp with rfl | rfl | rfl
  ·exact h1.below hba
  ·exact h2.below hba
  ·exact h3.below hba) (by rw [hcat];exact hs) (by simp)
 rw [hcat] at hC;refine hC.mono ?_;rintro e w' ⟨v,rfl,ho,hb⟩;exact ⟨v,rfl,cj ho (by simp),hba.trans (hb.mono (by simp))⟩
theorem one_byte (w:World) (k:Nat) (hk:k<256):Reads (w.alloc (.cells #[.int .u8 (k:Nat)] 5)) (w.alloc (.cells #[.int .u8 (k:Nat)] 5)).heap.size 1 (some ⟨w.heap.size,0,none⟩) 1 (bl [UInt8.ofNat k]):=by
 have h:=aa.new w 5 #[.int .u8 (k:Nat)];refine rB (t:=5) (b:=[UInt8.ofNat k]) ?_ rfl;unfold bl;rw [List.map_singleton,ko hk];exact h
theorem u4 (ka:Option Addr) (kl kc:Nat) (size:Int) (va:Option Addr) (vl vc over kid:Nat) (w:World) (h:mL kl size vl over kid=false) :
 Calls Tryz.prog 122 #[cellV ka kl kc size va vl vc over kid] w fun e w'=>e=.returned (.tuple #[.slice none 0 0,.int .i64 70])/\Below w.heap.size w w':=by
 have hI:=fun W=>nv ka kl kc size va vl vc over kid W;rw [h] at hI;unfold cellV at hI ⊢;have hB:=jF w ka kl kc size va vl vc over kid
 obtain ⟨w1,hw1⟩:∃ w1,w1=w.alloc (.cells #[.slice ka kl kc,.int .i64 size,.slice va vl vc,.int .u32 over,.int .u32 kid] 117):=⟨_,rfl⟩
 rw [<-hw1] at hB
 have hb1:Below w.heap.size w w1:=by rw [hw1];exact (bR _ w).alloc (nR _) _
 have HB:=lH hB;have HW1:=lH hw1;clear hB hw1;go_enter Tryz.func122,Tryz.ntmps122
 go_wp2_with (first | (rw [<-HW1.out];refine wpList_load_row rfl 117 (.tmp 1) rfl w.heap.size rfl _ _ _ _ HB.out Tryz.underlying117 rfl (by kernel_rfl) ?_) | (go_at_call 156;refine (hI _).mono ?_;rintro e w2 ⟨rfl,hb2⟩))
 go_ret2
 first
  | exact ⟨rfl,hb1.trans (hb2.mono hb1.size)⟩
  | exact ⟨rfl,((bR _ w).alloc (nR _) _).trans (hb2.mono (by simp))⟩
theorem u5 {B:Nat} (ka:Option Addr) (kc:Nat) (key:List UInt8) (size:Int) (va:Option Addr) (vl vc over kid:Nat) (w:World) (hB:B<=w.heap.size) (hr:Reads w B 1 ka key.length (bl key)) (h:mL key.length size vl over kid=true) (hk:kid<4294967296) :
 Calls Tryz.prog 122 #[cellV ka key.length kc size va vl vc over kid] w fun e w'=>∃ v,e=.returned (.tuple #[v,.int .i64 0])/\w'.ownsRow w.heap.size 5 1 v (ag 4 kid++(UInt8.ofNat key.length::key)).length (bl (ag 4 kid++(UInt8.ofNat key.length::key)))/\Below w.heap.size w w':=by
 have hI:=fun W=>nv ka key.length kc size va vl vc over kid W;rw [h] at hI;unfold mL at h;rw [decide_eq_true_eq] at h;have hkl:=h.1;unfold cellV at hI ⊢;have hC:=jF w ka key.length kc size va vl vc over kid
 obtain ⟨kl,KL⟩:∃ x,Hid (key.length=x):=⟨_,lH rfl⟩
 rw [KL.out] at hI hC hkl;have HC:=lH hC
 have hwu:IntKind.u64.wrap (kid:Int)=(kid:Int):=by rw [IntKind.wrap_u64];omega
 have hw8:IntKind.u8.wrap (kl:Int)=(kl:Int):=by rw [IntKind.wrap_u8];omega
 clear h hC;rw [KL.out];go_enter Tryz.func122,Tryz.ntmps122
 go_wp2_with (go_at_call 156;refine (hI _).mono ?_;rintro e w2 ⟨rfl,hb2⟩)
 have hbw2:Below w.heap.size w w2:=((bR _ w).alloc (nR _) _).trans (hb2.mono (by simp));have hC2:=HC.out.below hb2 HC.out.lt;have k0:w2.cell? ⟨w.heap.size,0,none⟩=some (.slice ka kl kc):=hC2.cell 0;have k4:w2.cell? ⟨w.heap.size,4,none⟩=some (.int .u32 (kid:Nat)):=hC2.cell 4
 have kS:∀ W,Below w2.heap.size w2 W->(W.cell? ⟨w.heap.size,0,none⟩=some (.slice ka kl kc)/\W.cell? ⟨w.heap.size,4,none⟩=some (.int .u32 (kid:Nat))):=fun W hW=>⟨(hW.cell (p:=⟨w.heap.size,0,none⟩) hC2.lt).trans k0,(hW.cell (p:=⟨w.heap.size,4,none⟩) hC2.lt).trans k4⟩
 have hbd:Below w2.heap.size w2 w2.drew:=(bR _ w2).drew;refine bB 13 (fun W0=>W0.cell? ⟨w.heap.size,0,none⟩=some (.slice ka kl kc)/\W0.cell? ⟨w.heap.size,4,none⟩=some (.int .u32 (kid:Nat))) (kS _ hbd) (fun hHeld hTl=>?_);refine ae 0 hTl hHeld (fun hTl=>?_)
 try simp only [pT]
 refine ae 1 hTl hHeld (fun hTl=>?_)
 try simp only [pT]
 refine ae 2 hTl hHeld (fun hTl=>?_)
 try simp only [pT]
 refine ae 4 hTl hHeld (fun hTl=>?_)
 try simp only [pT]
 refine ae 5 hTl hHeld (fun hTl=>?_)
 try simp only [pT]
 refine ae 6 hTl hHeld (fun hTl=>?_)
 try simp only [pT]
 refine ae 7 hTl hHeld (fun hTl=>?_)
 try simp only [pT]
 refine ae 9 hTl hHeld (fun hTl=>?_)
 try simp only [pT]
 refine ae 10 hTl hHeld (fun hTl=>?_)
 try simp only [pT]
 clear hTl;refine gi 3 8 rfl rfl (by kernel_rfl) (fun K hK=>?_) (fun K hK=>?_)
 ·refine sC rfl 115 _ (by go_simp) (ea kid 4 (by omega) (by omega) (by omega) _) ?_;rintro e w3 ⟨g,e3,hg,hB3,hb3⟩;subst e3;refine ⟨_,rfl,?_⟩;have hbd3:Below w2.heap.size w2 w3:=hbd.trans (hb3.mono hbd.size);refine hK.out _ _ (fun _=>kS _ hbd3) ?_;clear hK K
  try simp only [pT]
  refine aA 8 (fun K hK=>?_);go_simp;refine hK.out _ _ (fun _=>kS _ (hbd3.alloc hbd3.size _)) ?_;clear hK K
  try simp only [pT]
  have hr1:=rB (hB3.alloc (.cells #[.int .u8 (kl:Nat)] 5)) rfl;have hr2:=one_byte w3 kl (by omega);have hb4:Below w2.heap.size w2 (w3.alloc (.cells #[.int .u8 (kl:Nat)] 5)):=hbd3.alloc hbd3.size _;have hbw4:Below w.heap.size w (w3.alloc (.cells #[.int .u8 (kl:Nat)] 5)):=hbw2.trans (hb4.mono hbw2.size);have hr3:=rM (hr.below (hbw4.mono hB)) (nT hB hbw4.size);have hC:=Hr (c1:=4) (c2:=1) (c3:=kc) hr1 hr2 hr3 (by rw [lQ,fL,lQ];simp;have:=KL.out;omega);simp only [fL,List.length_singleton,KL.out] at hC;refine aA 11 (fun K hK=>?_);go_simp;refine hK.out _ _ (fun _=>kS _ (hb4.alloc hb4.size _)) ?_;clear hK K
  try simp only [pT]
  refine sP 12 hC ?_;rintro e w5 ⟨v5,e5,ho5,hb5⟩;subst e5;obtain ⟨A5,c5,rfl⟩:=bw ho5;refine ⟨_,rfl,(fun _=>kS _ (hb4.trans (hb5.mono hb4.size))),?_⟩
  try simp only [pT]
  refine az 13 (fun K hK=>?_);go_simp;refine hK.out _ _ ?_;clear hK K
  try simp only [pT]
  refine az 14 (fun K hK=>?_);go_simp;refine hK.out _ _ ?_;clear hK K
  try simp only [pT]
  refine cW ?_ _;go_wp2;go_ret2
  have e:(ag 4 kid++([UInt8.ofNat kl]++key)).length=(ag 4 kid).length+(key.length+1):=by simp
  have e':(ag 4 kid++(UInt8.ofNat kl::key)).length=(ag 4 kid).length+(key.length+1):=e;have ho6:=cj ho5 hbw4.size;rw [e] at ho6;rw [e'];exact ⟨_,rfl,ho6,hbw4.trans (hb5.mono hbw4.size)⟩
 ·go_simp;have hb3a:Below w2.heap.size w2 (w2.drew.alloc (.cells #[.int .u8 (kl:Nat)] 5)):=hbd.alloc hbd.size _;refine hK.out _ _ (fun _=>kS _ hb3a) ?_;clear hK K
  try simp only [pT]
  refine sP 3 (ea kid 4 (by omega) (by omega) (by omega) _) ?_
  rintro e w4 ⟨g,e3,hg,hB4,hb4'⟩;subst e3;have hb4:Below w2.heap.size w2 w4:=hb3a.trans (hb4'.mono hb3a.size)
  refine ⟨_,rfl,(fun _=>kS _ hb4),?_⟩
  try simp only [pT]
  have hr1:=rB hB4 rfl;have hr2:=rM ((one_byte w2.drew kl (by omega)).below hb4') hb4'.size;have hbw4:Below w.heap.size w w4:=hbw2.trans (hb4.mono hbw2.size);have hr3:=rM (hr.below (hbw4.mono hB)) (nT hB hbw4.size);have hC:=Hr (c1:=4) (c2:=1) (c3:=kc) hr1 hr2 hr3 (by rw [lQ,fL,lQ];simp;have:=KL.out;omega);simp only [fL,List.length_singleton,KL.out] at hC;refine aA 11 (fun K hK=>?_);go_simp;refine hK.out _ _ (fun _=>kS _ (hb4.alloc hb4.size _)) ?_;clear hK K
  try simp only [pT]
  refine sP 12 hC ?_;rintro e w5 ⟨v5,e5,ho5,hb5⟩;subst e5;obtain ⟨A5,c5,rfl⟩:=bw ho5;refine ⟨_,rfl,(fun _=>kS _ (hb4.trans (hb5.mono hb4.size))),?_⟩
  try simp only [pT]
  refine az 13 (fun K hK=>?_);go_simp;refine hK.out _ _ ?_;clear hK K
  try simp only [pT]
  refine az 14 (fun K hK=>?_);go_simp;refine hK.out _ _ ?_;clear hK K
  try simp only [pT]
  refine cW ?_ _;go_wp2;go_ret2
  have e:(ag 4 kid++([UInt8.ofNat kl]++key)).length=(ag 4 kid).length+(key.length+1):=by simp
  have e':(ag 4 kid++(UInt8.ofNat kl::key)).length=(ag 4 kid).length+(key.length+1):=e;have ho6:=cj ho5 hbw4.size;rw [e] at ho6;rw [e'];exact ⟨_,rfl,ho6,hbw4.trans (hb5.mono hbw4.size)⟩
end
section
open Go.RowKit
variable {F:Fence} {n:Nat} {P:Program}
def Hs {α:Type} (F:Fence) (n:Nat) (P:Program) (g:Nat) (lb:Array Value) (encs:α->Array Value) (Kp Rt:World->World->Prop) (S Sp:List α->Prop) (N:Nat) (w:World):Prop :=
 ∀ (l:Nat) (J Jx:List α->World->Prop) (W:World),Below w.heap.size w W->(∀ s A B,J s A->Rt A B->J s B)->(∀ s A B,Jx s A->Rt A B->Jx s B) ->
  (∀ pre x W1,J pre W1->pre.length<N->YieldAt F (n-1) P l (encs x) W1 fun e W' =>
   (e=.returned (.bool true)/\J (pre++[x]) W'/\Kp W1 W')\/(e=.returned (.bool false)/\Jx (pre++[x]) W')) ->
  J [] W ->
  CallsIn F n P g (#[.func (.yield l) #[] #[]]++lb) W fun e W'=>(∃ v,e=.returned v)/\((∃ xs,S xs/\J xs W')\/(∃ pre,Sp pre/\Jx pre W'))
theorem mM {α:Type} {g:Operand} {ps:Array Tmp} {assign body:Code} {Q:Exit->Act->World->Prop} {a:Act} {w:World}
 (hro:F.round=none) (h1:1<=n) {gf:Nat} {lb:Array Value} (hg:a.eval g=.func (.func gf) #[] lb) (hFg:F.fn gf) (eg:∀ args w,(callFunc gf args).run P w=.ok (.enter gf args) w)
 {encs:α->Array Value} {Kp Rt:World->World->Prop} {S Sp:List α->Prop} {N:Nat} {w0:World} (hseq:Hs F (n-1) P gf lb encs Kp Rt S Sp N w0)
 (hRo:∀ {A B:World},Rt A B->KeepsOthers A B)
 (hKt:∀ {A B C:World},Kp A B->Kp B C->Kp A C) (hKb:∀ (W:World) (l:Nat) (o o':Obj),w.heap.size<=l->W.heap[l]?=some o->o.isCells=false->o.isWalk=false->Kp W (W.putObj l o')) (hb0:Below w0.heap.size w0 w) (hps:∀ x,(encs x).size=ps.size)
 (I:List α->World->Prop) (Ix:Code->List α->World->Prop) (hI:OwnFrom w.heap.size I) (hIx:∀ c,OwnFrom w.heap.size (Ix c))
 (hIr:∀ s A B,I s A->Rt A B->I s B) (hIxr:∀ c s A B,Ix c s A->Rt A B->Ix c s B) (h0:I [] w) (a₁:α->Act)
 (hassign:∀ (l:Nat) (x:α) (W:World) (K:Act->World->Prop),K (a₁ x) W ->
  assign.wpIn (F.inRound l) (n-1-1) P (Exit.then K (fun _ _ _=>False)) {tmps:=(ps.zip (encs x)).foldl (fun t (p,v)=>t.setIfInBounds p v) a.tmps,defers:=[]} W)
 (hbody:∀ (l:Nat) (pre:List α) (x:α) (W:World),I pre W->pre.length<N->body.wpIn (F.inRound l) (n-1-1) P (ownPostK Kp I Ix (pre++[x]) W) (a₁ x) W)
 (hdone:∀ (D:Nat) (xs:List α) (W:World),w.heap.size<=D->S xs->I xs W->W.heap[D]?=some (.deferred (some []))->Q .normal {a with defers:={target:=.collected D,args:=#[]} :: a.defers} W)
 (hstop:∀ (D:Nat) (c:Code) (pre:List α) (W:World),w.heap.size<=D->Sp pre->Ix c pre W->W.heap[D]?=some (.deferred (some []))->c.wpIn F n P Q {a with defers:={target:=.collected D,args:=#[]} :: a.defers} W) :
 (Code.rangeFunc g ps assign body).wpIn F n P Q a w:=by
 refine wpIn_rangeFunc ?_;intro fn hfn;rw [hro]
 obtain ⟨rec,hrec⟩:∃ rec:LoopState->Option Code->Loop,rec=fun st pe=>{state:=st,pending:=pe,fn,tmps:=a.tmps,params:=ps,assign,body,defers:=w.heap.size}:=⟨_,rfl⟩
 obtain ⟨W1,hW1⟩:∃ W1,(w.alloc (.deferred (some []))).alloc (.loop (rec .ready none))=W1:=⟨_,rfl⟩
 have hL1:W1.heap[w.heap.size+1]?=some (.loop (rec .ready none)):=by
  rw [<-hW1];have:=World.alloc_heap_new (w.alloc (.deferred (some []))) (.loop (rec .ready none));rwa [World.size_alloc] at this
 have hK1:W1.heap[w.heap.size]?=some (.deferred (some [])):=by
  rw [<-hW1];exact (Below.heap_alloc _ _ _ (by simp)).trans (World.alloc_heap_new w _)
 have hI1:I [] W1:=by rw [<-hW1];exact hI.alloc _ (hI.alloc _ h0)
 have hb1:Below w0.heap.size w0 W1:=by
  rw [<-hW1];exact hb0.trans ((((bR _ w).alloc (nR _) _).alloc (by simp) _).mono hb0.size)
 refine ⟨w.heap.size+1,[{target:=.collected w.heap.size,args:=#[]}],W1,{target:=.fn (.func gf) lb,args:=#[.func (.yield (w.heap.size+1)) #[] #[]]},W1,gf,
  #[.func (.yield (w.heap.size+1)) #[] #[]]++lb,W1,?_,?_,?_,?_,fun _=>h1,?_⟩
 ·rw [<-hW1,hrec];exact run_enterLoop_outer _ _ _ _ _
 ·simp only [resolve,hg];simp [go_sem]
 ·intro f' hf';simp [Target.leads] at hf';subst hf';exact hFg
 ·simp [invoke,go_sem,eg]
 ·
   refine (hseq (w.heap.size+1)
    (fun pre W=>I pre W/\W.heap[w.heap.size+1]?=some (.loop (rec .ready none))/\W.heap[w.heap.size]?=some (.deferred (some [])))
    (fun pre W=>∃ c,Ix c pre W/\W.heap[w.heap.size+1]?=some (.loop (rec .done (some c)))/\W.heap[w.heap.size]?=some (.deferred (some [])))
    W1 hb1
    (fun s A B hs hr=>⟨hIr s A B hs.1 hr,(hRo hr).same _ _ hs.2.1 rfl,(hRo hr).same _ _ hs.2.2 rfl⟩)
    (fun s A B hs hr=>by
     obtain ⟨c,hc,hl,hk⟩:=hs
     exact ⟨c,hIxr c s A B hc hr,(hRo hr).same _ _ hl rfl,(hRo hr).same _ _ hk rfl⟩)
    ?_ ⟨hI1,hL1,hK1⟩).mono ?_
   ·
     rintro pre x W ⟨hi,hl,hk⟩ hlen;have hlt:w.heap.size+1<W.heap.size:=(aS.1 hl).1;have hy:=run_yield (P:=P) (args:=encs x) hl (by rw [hrec];exact hps x);rw [hrec] at hy;refine ⟨fn,_,assign,body,hy,roundIn_of_wpIn hfn (hassign _ x W _ ⟨_,run_beginRound hl (by rw [hrec]),?_⟩)⟩;have hl2:(W.putObj (w.heap.size+1) (.loop {rec .ready none with state:=.busy})).heap[w.heap.size+1]?=some (.loop {rec .ready none with state:=.busy}):=World.putObj_heap_same hlt;have hk2:(W.putObj (w.heap.size+1) (.loop {rec .ready none with state:=.busy})).heap[w.heap.size]?=some (.deferred (some [])):=(World.putObj_heap_other (by omega)).trans hk;have hw2:Kp W (W.putObj (w.heap.size+1) (.loop {rec .ready none with state:=.busy})):=hKb _ _ _ _ (by omega) hl rfl rfl;refine wpIn_mono (hbody _ pre x _ (hI.putObj _ hi (by omega) hl rfl) hlen) ?_
     have fin:∀ (jump:Option Code) (W3:World),KeepsOthers (W.putObj (w.heap.size+1) (.loop {rec .ready none with state:=.busy})) W3 ->
      (Instr.endRound (w.heap.size+1) jump).run P W3=.ok (.bool jump.isNone) (W3.putObj (w.heap.size+1) (.loop (rec (if jump.isNone then .ready else .done) jump))) /\
      W3.heap[w.heap.size+1]?=some (.loop {rec .ready none with state:=.busy}) /\
      (W3.putObj (w.heap.size+1) (.loop (rec (if jump.isNone then .ready else .done) jump))).heap[w.heap.size+1]?=some (.loop (rec (if jump.isNone then .ready else .done) jump)) /\
      (W3.putObj (w.heap.size+1) (.loop (rec (if jump.isNone then .ready else .done) jump))).heap[w.heap.size]?=some (.deferred (some [])):=fun jump W3 hk3=>by
      have hl3:=hk3.same _ _ hl2 rfl;have:=run_endRound (P:=P) jump hl3;rw [hrec] at this ⊢;exact ⟨this,by rw [hrec] at hl3;exact hl3,World.putObj_heap_same (aS.1 hl3).1,(World.putObj_heap_other (by omega)).trans (hk3.same _ _ hk2 rfl)⟩
     rintro e a3 W3 hp
     cases e with
     | normal =>
      obtain ⟨hk3,hkp3,hi3⟩:=hp;obtain ⟨hr,hl3,hl4,hk4⟩:=fin none W3 hk3;exact ⟨_,_,hr,.inl ⟨rfl,⟨hI.putObj _ hi3 (by omega) hl3 rfl,hl4,hk4⟩,hKt (hKt hw2 hkp3) (hKb _ _ _ _ (by omega) hl3 rfl rfl)⟩⟩
     | ret =>
      obtain ⟨hk3,hi3⟩:=hp;obtain ⟨hr,hl3,hl4,hk4⟩:=fin (some .ret) W3 hk3;exact ⟨_,_,hr,.inr ⟨rfl,.ret,(hIx _).putObj _ hi3 (by omega) hl3 rfl,hl4,hk4⟩⟩
     | exit id =>
      obtain ⟨hk3,hi3⟩:=hp;obtain ⟨hr,hl3,hl4,hk4⟩:=fin (some (.exit id)) W3 hk3;exact ⟨_,_,hr,.inr ⟨rfl,.exit id,(hIx _).putObj _ hi3 (by omega) hl3 rfl,hl4,hk4⟩⟩
     | goto t =>
      obtain ⟨hk3,hi3⟩:=hp;obtain ⟨hr,hl3,hl4,hk4⟩:=fin (some (.goto t)) W3 hk3;exact ⟨_,_,hr,.inr ⟨rfl,.goto t,(hIx _).putObj _ hi3 (by omega) hl3 rfl,hl4,hk4⟩⟩
     | panic ch=>exact hp.elim
     | outgrown=>exact hp.elim
   ·
     rintro e W2 ⟨⟨v,rfl⟩,(⟨xs,hS,hi,hl,hk⟩ | ⟨pre,hSp,c,hi,hl,hk⟩)⟩
     ·exact ⟨none,_,by have:=run_endLoop (P:=P) hl (by rw [hrec];simp);rw [hrec] at this;exact this,hdone _ xs _ (nR _) hS (hI.putObj _ hi (by omega) hl rfl) ((World.putObj_heap_other (by omega)).trans hk)⟩
     ·exact ⟨some c,_,by have:=run_endLoop (P:=P) hl (by rw [hrec];simp);rw [hrec] at this;exact this,hstop _ c pre _ (nR _) hSp ((hIx c).putObj _ hi (by omega) hl rfl) ((World.putObj_heap_other (by omega)).trans hk)⟩
end
section
open Go.RowKit
attribute [local go_sem] Oper.semAt_some
def fK (n:Nat):List (UInt8 × Bool):=if n<128 then [(UInt8.ofNat n,false)] else [(UInt8.ofNat (n % 128),true),(UInt8.ofNat (n / 128),false)]
def Et (x:UInt8 × Bool):Array Value:=#[.int .u8 ((x.1.toNat:Nat):Int),.bool x.2]
def Jm (bn:Nat) (A B:World):Prop:=Fr (fun k=>k=bn) A B/\KeepsOthers A B/\∀ t v,Boxed A bn t v->∃ u,Boxed B bn t u
def Jn (bn:Nat) (A B:World):Prop:=B.heap[bn]?=A.heap[bn]?
theorem Au (m:Nat) (hm:1<=m) (bn n:Nat) (hn:n<16384) (w:World) (hb:aa w bn 58 #[.int .u64 n]) :
 Hs Fence.wide m Tryz.prog 179 #[.pointer (some ⟨bn,0,none⟩)] Et (Jn bn) (Jm bn) (fun xs=>xs=fK n) (fun _=>True) 2 w:=by
 intro l J Jx W hW hJ hJx hY h0;refine callsIn_of_wp Tryz.func179 rfl trivial ?_ rfl;simp only [Tryz.ntmps179,List.size_toArray,List.length_cons,List.length_nil,Nat.reduceAdd,Nat.reduceSub,Array.replicate_succ,Array.replicate_zero,List.push_toArray,List.append_toArray,List.nil_append,List.cons_append];have hB:aa W bn 58 #[.int .u64 n]:=(hW.block bn hb.lt).trans hb
 gi_wp2
 gi_loopw [] (fun wr=>∃ (v:Nat) (pre:List (UInt8 × Bool)),v<16384/\aa wr bn 58 #[.int .u64 v]/\J pre wr/\pre++fK v=fK n/\pre.length<=1/\(pre.length=1->v<128)) (fun wr=>match wr.cell? ⟨bn,0,none⟩ with
  | some (.int _ v)=>v.toNat
  | _=>0)
 case atStart=>exact ⟨n,[],hn,hB,h0,rfl,by simp,fun h=>by simp at h⟩
 case round =>
  obtain ⟨v,pre,hv,hb1,hj,hp,hl,hl2⟩:=hrel;have c1:wr.cell? ⟨bn,0,none⟩=some (.int .u64 v):=hb1.cell 0;by_cases hlt:v<128
  ·have d1:decide (128<=(v:Int))=false:=dF (by omega);have d2:decide (128<=v)=false:=dF (by omega)
   have e1:IntKind.u8.wrap (v:Int)=(v:Int):=by rw [IntKind.wrap_u8];omega
   obtain ⟨fn,tmps,assign,body,hy,hR⟩:=hY pre (UInt8.ofNat v,false) wr hj (by omega);unfold Et at hy;rw [ko (show v<256 by omega)] at hy
   gi_wp2
   refine hR.mono ?_;rintro e W3 (⟨rfl,hJ3,hk3⟩ | ⟨rfl,hJx3⟩)
   ·gi_wp2
    go_end0
    refine ⟨⟨_,rfl⟩,.inl ⟨_,?_,hJ3⟩⟩;rw [<-hp];unfold fK;rw [if_pos hlt]
   ·gi_wp2
    go_end0
    exact ⟨⟨_,rfl⟩,.inr ⟨_,trivial,hJx3⟩⟩
  ·have d1:decide (128<=(v:Int))=true:=dT (by omega);have d2:decide (128<=v)=true:=dT (by omega)
   obtain ⟨q,HQ⟩:∃ q,Hid (v % 128=q):=⟨_,lH rfl⟩
   obtain ⟨r,HR⟩:∃ r,Hid (v / 128=r):=⟨_,lH rfl⟩
   have e1:IntKind.u8.wrap (v:Int)=(v:Int) % 256:=by rw [IntKind.wrap_u8]
   have e2:bits .and .u8 ((v:Int) % 256) 127=(q:Int):=by
    have h:=(bits_nat .u8 8 (by decide) (fun n h0 h1=>by rw [IntKind.wrap_u8];omega) (v % 256) 127 (by omega) (by decide)).1;have h2:=Nat.and_two_pow_sub_one_eq_mod (v % 256) 7;rw [show (2:Nat) ^ 7-1=127 from rfl,show (2:Nat) ^ 7=128 from rfl] at h2;rw [h2] at h;rw [<-HQ.out,show v % 128=v % 256 % 128 by omega];rw [<-h];congr 1
   have e3:(v:Int) / 128=(r:Int):=by have:=HR.out;omega
   obtain ⟨fn,tmps,assign,body,hy,hR⟩:=hY pre (UInt8.ofNat q,true) wr hj (by omega);unfold Et at hy;rw [ko (show q<256 by have:=HQ.out;omega)] at hy
   have hl0:pre=[]:=by
    rcases Nat.eq_zero_or_pos pre.length with h | h
    ·exact List.eq_nil_of_length_eq_zero h
    ·have:=hl2 (by omega);omega
   gi_wp2
   refine hR.mono ?_;rintro e W3 (⟨rfl,hJ3,hk3⟩ | ⟨rfl,hJx3⟩)
   ·have hb3:aa W3 bn 58 #[.int .u64 v]:=(show W3.heap[bn]?=wr.heap[bn]? from hk3).trans hb1;have c3:W3.cell? ⟨bn,0,none⟩=some (.int .u64 v):=hb3.cell 0;have f3:=hb3.frozen 0
    gi_wp2
    go_roundw
    case rel =>
     have h9:=hb3.set_ 0 (.int .u64 (r:Nat));refine ⟨r,pre++[(UInt8.ofNat q,true)],by have:=HR.out;omega,h9,hJ _ _ _ hJ3 ⟨⟨rfl,rfl,rfl,by simp [World.setCell],fun j hj hx=>Below.heap_setCell W3 ⟨bn,0,none⟩ _ j hx⟩,KeepsOthers.setCell _ _ _,fun t v' hv'=>⟨_,aa.set_ (show aa W3 bn t #[v'] from hv') 0 _⟩⟩,?_,by rw [hl0];simp,fun _=>by have:=HR.out;omega⟩;rw [<-hp,hl0]
     have p1:fK v=[(UInt8.ofNat q,true),(UInt8.ofNat r,false)]:=by unfold fK;rw [if_neg hlt,HQ.out,HR.out]
     have p2:fK r=[(UInt8.ofNat r,false)]:=by unfold fK;rw [if_pos (by have:=HR.out;omega)]
     rw [p1,p2];rfl
    case measure =>
     have h9:=(hb3.set_ 0 (.int .u64 (r:Nat))).cell 0;rw [h9,c1];have:=HR.out;simp;omega
   ·gi_wp2
    refine bodyPost_ret (results_none rfl _ _ _) rfl ?_;exact ⟨⟨_,rfl⟩,.inr ⟨_,trivial,hJx3⟩⟩
theorem Av (n:Nat) (w:World):Calls Tryz.prog 169 #[.int .u64 n] w fun e w'=>e=.returned (.func (.func 179) #[] #[.pointer (some ⟨w.heap.size,0,none⟩)])/\w'=w.alloc (.cells #[.int .u64 n] 58):=by
 go_enter Tryz.func169,Tryz.ntmps169;go_wp2;go_ret;exact ⟨rfl,rfl⟩
theorem iZ {W w1:World} {n₀ B:Nat} {t e:TypeId} {size m:Nat} {v v':Value} {xs:List Value} {tmp:Obj} (hv:Boxed W B t v) (hrow:W.ownsRow n₀ e size v m xs) (hgrow:(W.alloc tmp).grownBy w1 v.ownBlock)
 {k:Nat} {cs:Array Value} {t':TypeId} {fz:Nat × Nat} (hk:W.heap[k]?=some (.cells cs t' fz)) (h1:t'≠t) (h2:t'≠e):(w1.setCell ⟨B,0,none⟩ v').heap[k]?=some (.cells cs t' fz):=by
 have hlt:=(aS.1 hk).1
 have hne:k≠B:=by
  rintro rfl;rw [show W.heap[k]?=_ from hv] at hk
  cases hk
  exact h1 rfl
 rw [Below.heap_setCell w1 ⟨B,0,none⟩ v' k hne,hgrow.block k (by simp;omega) ?_,Below.heap_alloc _ _ _ hlt,hk]
 rcases hrow.2 with ⟨rfl,_⟩ | ⟨g,cap,cur,rfl,_,hg,_⟩
 ·simp [Value.ownBlock]
 ·intro e'
  have:k=g:=by simpa [Value.ownBlock] using e'
  subst this;rw [hg] at hk
  cases hk
  exact h2 rfl
def byteOf (x:UInt8 × Bool):UInt8:=if x.2=true then x.1 ||| 128 else x.1
theorem or_hi:∀ q,q<128->UInt8.ofNat q ||| 128=UInt8.ofNat (q+128):=by decide
theorem rL {n:Nat} (hn:n<16384):(fK n).map byteOf=eV n:=by
 unfold fK eV;rw [iT];by_cases h:n<128
 ·rw [if_pos h,if_pos h];rfl
 ·rw [if_neg h,if_neg h,iT,if_pos (by omega)];show [UInt8.ofNat (n % 128) ||| 128,UInt8.ofNat (n / 128)]=_;rw [or_hi _ (by omega)]
theorem u6 (n:Nat) (hn:n<16384) (w:World) :
 Calls Tryz.prog 153 #[.int .u64 n] w fun e w'=>∃ A c,e=.returned (.slice A (eV n).length c)/\Reads w' w'.heap.size 1 A (eV n).length (bl (eV n))/\Below w.heap.size w w':=by
 refine (callsIn_wide (n:=5)).1 ?_;refine callsIn_of_wp_marks Tryz.func153 rfl trivial ?_ rfl;simp only [Tryz.ntmps153,List.size_toArray,List.length_cons,List.length_nil,Nat.reduceAdd,Nat.reduceSub,Array.replicate_succ,Array.replicate_zero,List.push_toArray,List.append_toArray,List.nil_append,List.cons_append]
 gi_wp2_with (refine ⟨trivial,?_⟩;gi_at_call 169;refine (callsIn_wide.2 (Av _ _)).mono ?_;rintro e w2 ⟨rfl,hww⟩;have hww:=hww.symm;subst hww)
 obtain ⟨i0,hi,hz0,hz1,hz2⟩:=Eh
 obtain ⟨wA,hwA⟩:∃ wA,wA=(w.alloc (.cells #[.slice none 0 0] 23)).alloc (.cells #[.int .u64 n] 58):=⟨_,rfl⟩
 have bO:Boxed wA w.heap.size 23 (.slice none 0 0):=by rw [hwA];exact (Boxed.new w 23 (.slice none 0 0)).alloc _
 have bN:aa wA (w.heap.size+1) 58 #[.int .u64 n]:=by rw [hwA];have:=aa.new (w.alloc (.cells #[.slice none 0 0] 23)) 58 #[.int .u64 n];simpa using this
 have hB0:Below w.heap.size w wA:=by rw [hwA];exact ((bR _ w).alloc (nR _) _).alloc (by simp) _
 have hs0:wA.heap.size=w.heap.size+2:=by rw [hwA];simp
 rw [<-hwA];clear hwA
 refine mM rfl (by omega) (gf:=179) (lb:=#[.pointer (some ⟨w.heap.size+1,0,none⟩)]) rfl trivial (enters_of Tryz.func179 (by kernel_rfl) rfl)
  (Au 4 (by omega) (w.heap.size+1) n hn wA bN) (fun h=>h.2.1) (fun h k=>k.trans h)
  ?hkb (bR _ _) (fun _=>rfl)
  (fun pre W=>(∃ v,Boxed W w.heap.size 23 v/\W.ownsRow w.heap.size 5 1 v pre.length (bl (pre.map byteOf))/\True)/\Below w.heap.size w W/\wA.heap.size<=W.heap.size/\(∃ v,Boxed W (w.heap.size+1) 58 v))
  (fun _ _ _=>False) ?hi (fun _ _ _ _ _ hs _ _=>hs) ?hIr (fun _ _ _ _ hs _=>hs) ⟨⟨_,bO,World.ownsRow_nil _ _ _ _,trivial⟩,hB0,nR _,_,bN⟩ ?a1 ?assign ?body ?done ?stop
 case hkb =>
  intro W l o o' hl ho hc hw;exact World.putObj_heap_other (by omega)
 case hi =>
  rintro pre W W' row ⟨h1,h2,h3,v,h4⟩ hg hr;refine ⟨(Own.from (holdsRow_own w.heap.size w.heap.size 23 5 1 (fun pre:List (UInt8 × Bool)=>pre.length) (fun pre=>bl (pre.map byteOf)) (fun _ _=>True)) _) pre W W' row h1 hg hr,(ownFrom_below (nR _) (by omega)) pre W W' row h2 hg hr,nT h3 hg.size,v,?_⟩;refine (hg.block _ (by have:=(aS.1 h4).1;omega) (fun e=>?_)).trans h4;have:=(hr _ e.symm).1;omega
 case assign =>
  intro l x W K hK;unfold Et
  gi_wp2
  exact hK
 case hIr =>
  rintro pre X Y ⟨⟨v,hv,hrow,_⟩,hB,hs,u,hu⟩ ⟨hf,hko,hst⟩;have hlt:=(aS.1 hv).1;refine ⟨⟨v,(hf.block _ hlt (fun e=>by have e:w.heap.size=w.heap.size+1:=e;omega)).trans hv,?_,trivial⟩,hB.trans (hf.below (by have:=hB.size;omega) (fun k hk=>by have hk:k=w.heap.size+1:=hk;omega)),nT hs hf.size,?_⟩
  ·rcases hrow.2 with h | ⟨g,cap,cur,rfl,hbg,hgg,rest⟩
   ·exact ⟨hrow.1,.inl h⟩
   ·refine ⟨hrow.1,.inr ⟨g,cap,cur,rfl,hbg,(hf.block _ (aS.1 hgg).1 (fun e=>?_)).trans hgg,rest⟩⟩;have e:g=w.heap.size+1:=e;subst e;rw [show X.heap[w.heap.size+1]?=_ from hu] at hgg
    cases hgg
  ·exact hst _ _ hu
 case body =>
  rintro lo pre x W ⟨⟨v,hv,hrow,_⟩,hB,hs,u,hu⟩ hlt;have hc:=hv.cell;obtain ⟨x1,x2⟩:=x
  cases x2 with
  | false =>
   gi_wp2_with (gi_at_builtin;refine wpListIn_append_own _ rfl _ _ 23 rfl w.heap.size 5 i0 (.int .u8 0) 1 1 Tryz.underlying23 hi hz0 hz1 hz2 rfl (by decide) _ _ _ rfl (hrow.alloc _) ⟨W.heap.size,0,none⟩ 1 1 [.int .u8 ((x1.toNat:Nat):Int)] rfl rfl (cell_one_new _ _ _) (by simp [Value.oneCell']) (by unfold maxLen;omega) (by omega) (by have:=hB.size;simp;omega) ?_;intro v' w1 hown' hgrow _;obtain ⟨g',cap',rfl⟩:=ownsRow_succ hown';obtain ⟨hv1,hv2,hr2,hk2,hb2⟩:=hv.appended (by decide) hrow hB.size (nR _) hown' hgrow;have hc1:=hv1.cell;have hf1:=hv1.frozen)
   have ho:=fun {k:Nat} {cs:Array Value} {t':Nat} {fz:Nat × Nat} (hk:W.heap[k]?=some (.cells cs t' fz)) (h1:t'≠23) (h2:t'≠5)=>iZ (v':=.slice (some ⟨g',0,none⟩) (pre.length+1) cap') hv hrow hgrow hk h1 h2;refine ⟨hk2,(ho hu (by decide) (by decide)).trans hu.symm,⟨_,hv2,by simpa [bl,byteOf] using hr2,trivial⟩,hB.trans hb2,nT hs hb2.size,u,ho hu (by decide) (by decide)⟩
  | true =>
   have e1:bits .or .u8 ((x1.toNat:Nat):Int) 128=(((x1 ||| 128).toNat:Nat):Int):=by
    have h:=(bits_nat .u8 8 (by decide) (fun n h0 h1=>by rw [IntKind.wrap_u8];omega) x1.toNat 128 (by have:=x1.toNat_lt;omega) (by decide)).2;rw [UInt8.toNat_or];exact h
   gi_wp2_with (gi_at_builtin;refine wpListIn_append_own _ rfl _ _ 23 rfl w.heap.size 5 i0 (.int .u8 0) 1 1 Tryz.underlying23 hi hz0 hz1 hz2 rfl (by decide) _ _ _ rfl (hrow.alloc _) ⟨W.heap.size,0,none⟩ 1 1 [.int .u8 (((x1 ||| 128).toNat:Nat):Int)] rfl rfl (cell_one_new _ _ _) (by simp [Value.oneCell']) (by unfold maxLen;omega) (by omega) (by have:=hB.size;simp;omega) ?_;intro v' w1 hown' hgrow _;obtain ⟨g',cap',rfl⟩:=ownsRow_succ hown';obtain ⟨hv1,hv2,hr2,hk2,hb2⟩:=hv.appended (by decide) hrow hB.size (nR _) hown' hgrow;have hc1:=hv1.cell;have hf1:=hv1.frozen)
   have ho:=fun {k:Nat} {cs:Array Value} {t':Nat} {fz:Nat × Nat} (hk:W.heap[k]?=some (.cells cs t' fz)) (h1:t'≠23) (h2:t'≠5)=>iZ (v':=.slice (some ⟨g',0,none⟩) (pre.length+1) cap') hv hrow hgrow hk h1 h2;refine ⟨hk2,(ho hu (by decide) (by decide)).trans hu.symm,⟨_,hv2,by simpa [bl,byteOf] using hr2,trivial⟩,hB.trans hb2,nT hs hb2.size,u,ho hu (by decide) (by decide)⟩
 case done =>
  rintro D ys W hD rfl ⟨⟨v,hv,hrow,_⟩,hB,hs,u,hu⟩ hK;have hc:=hv.cell
  gi_wp2
  refine ⟨by simp,.inl ⟨_,_,rfl,run_takeDeferred hK,?_⟩⟩
  have hl:(fK n).length=(eV n).length:=by rw [<-rL hn,List.length_map]
  rw [rL hn,hl] at hrow
  obtain ⟨A,c,rfl⟩:∃ A c,v=.slice A (eV n).length c:=by
   rcases hrow.2 with ⟨rfl,h0⟩ | ⟨g,cap,cur,rfl,_⟩
   ·exact ⟨none,0,by rw [h0]⟩
   ·exact ⟨_,_,rfl⟩
  have hr2:=ownsRow_putObj hrow (.deferred none) hK rfl;refine ⟨_,results_tmp rfl _ _ _,A,c,rfl,?_,hB.trans (belowK_b (w:=w) (nR _) W D _ _ (by omega) hK rfl rfl)⟩;exact Reads.of_own hr2
 case stop =>
  rintro D c pre W _ _ h _;exact h.elim
theorem y6 {w:World} {B e s n m:Nat} {v:Value} {xs:List Value} (h:w.ownsRow B e s v n xs) (hm:n=m):w.ownsRow B e s v m xs:=hm ▸ h
theorem Eu {w:World} {A1 A2 A3 A4:Option Addr} {c1 c2 c3 c4:Nat} {b1 b2 b3 b4:List UInt8} (h1:Reads w w.heap.size 1 A1 b1.length (bl b1)) (h2:Reads w w.heap.size 1 A2 b2.length (bl b2)) (h3:Reads w w.heap.size 1 A3 b3.length (bl b3)) (h4:Reads w w.heap.size 1 A4 b4.length (bl b4)) (hs:(b1++(b2++(b3++b4))).length<=3000000) :
 Calls Tryz.prog 147 #[.slice (some ⟨w.heap.size,0,none⟩) 4 4] (w.alloc (.cells #[.slice A1 b1.length c1,.slice A2 b2.length c2,.slice A3 b3.length c3,.slice A4 b4.length c4] 23)) fun e w'=>∃ v,e=.returned v/\w'.ownsRow w.heap.size 5 1 v (b1++(b2++(b3++b4))).length (bl (b1++(b2++(b3++b4))))/\Below w.heap.size w w':=by
 have hcat:fA [⟨A1,c1,b1⟩,⟨A2,c2,b2⟩,⟨A3,c3,b3⟩,⟨A4,c4,b4⟩]=b1++(b2++(b3++b4)):=by simp [fA]
 have hba:Below w.heap.size w (w.alloc (.cells #[.slice A1 b1.length c1,.slice A2 b2.length c2,.slice A3 b3.length c3,.slice A4 b4.length c4] 23)):=(bR _ w).alloc (nR _) _
 have hC:=ik (B:=w.heap.size) w.heap.size 4 [⟨A1,c1,b1⟩,⟨A2,c2,b2⟩,⟨A3,c3,b3⟩,⟨A4,c4,b4⟩] (w.alloc (.cells #[.slice A1 b1.length c1,.slice A2 b2.length c2,.slice A3 b3.length c3,.slice A4 b4.length c4] 23)) (by simp) (fun k p hk=>by
  have hbk:=aa.new w 23 #[.slice A1 b1.length c1,.slice A2 b2.length c2,.slice A3 b3.length c3,.slice A4 b4.length c4];rw [hbk.cell]
  rcases k with _ | _ | _ | _ | k
  ·cases hk;rfl
  ·cases hk;rfl
  ·cases hk;rfl
  ·cases hk;rfl
  ·simp at hk) (fun p hp=>by
  simp only [List.mem_cons,List.not_mem_nil,or_false] at hp
  rcases hp with rfl | rfl | rfl | rfl
  ·exact h1.below hba
  ·exact h2.below hba
  ·exact h3.below hba
  ·exact h4.below hba) (by rw [hcat];exact hs) (by simp)
 rw [hcat] at hC;refine hC.mono ?_;rintro e w' ⟨v,rfl,ho,hb⟩;exact ⟨v,rfl,cj ho (by simp),hba.trans (hb.mono (by simp))⟩
theorem xh (ka:Option Addr) (kl kc:Nat) (size:Int) (va:Option Addr) (vl vc over kid:Nat) (w:World) (h:iY kl size vl over kid=false) :
 Calls Tryz.prog 120 #[cellV ka kl kc size va vl vc over kid] w fun e w'=>e=.returned (.tuple #[.slice none 0 0,.int .i64 70])/\Below w.heap.size w w':=by
 have hI:=fun W=>kN ka kl kc size va vl vc over kid W;rw [h] at hI;unfold cellV at hI ⊢;go_enter Tryz.func120,Tryz.ntmps120
 go_wp2_with (go_at_call 152;refine (hI _).mono ?_;rintro e w2 ⟨rfl,hb2⟩)
 go_ret2;exact ⟨rfl,((bR _ w).alloc (nR _) _).trans (hb2.mono (by simp))⟩
theorem u7 {B:Nat} (ka:Option Addr) (kc:Nat) (key:List UInt8) (size:Int) (va:Option Addr) (vc:Nat) (val:List UInt8) (over kid:Nat) (w:World) (hB:B<=w.heap.size) (hr:Reads w B 1 ka key.length (bl key)) (hrv0:Reads w B 1 va val.length (bl val)) (h:iY key.length size val.length over kid=true) (ho:over<4294967296) (hsz:size<=40) :
 Calls Tryz.prog 120 #[cellV ka key.length kc size va val.length vc over kid] w fun e w'=>∃ v,e=.returned (.tuple #[v,.int .i64 0])/\w'.ownsRow w.heap.size 5 1 v (UInt8.ofNat key.length::(key++(eV size.toNat++val))).length (bl (UInt8.ofNat key.length::(key++(eV size.toNat++val))))/\Below w.heap.size w w':=by
 have hI:=fun W=>kN ka key.length kc size va val.length vc over kid W;rw [h] at hI;unfold iY at h;rw [decide_eq_true_eq] at h;obtain ⟨hk1,hkl,hs0,hs1,hkid,hsv,hso⟩:=h;have HKID:=lH hkid;clear hkid;unfold cellV at hI ⊢;have hC:=jF w ka key.length kc size va val.length vc over kid
 obtain ⟨kl,KL⟩:∃ x,Hid (key.length=x):=⟨_,lH rfl⟩
 obtain ⟨vl,VL⟩:∃ x,Hid (val.length=x):=⟨_,lH rfl⟩
 rw [KL.out,VL.out] at hI hC;rw [KL.out] at hkl hk1
 have hvl:vl<=40:=by have:=VL.out;by_cases h40:size<=40;(have:=(hsv h40).1;omega);(have:=(hso (by omega)).1;omega)
 have HC:=lH hC
 obtain ⟨sz,hsz0⟩:∃ sz:Nat,size=sz:=⟨size.toNat,by omega⟩
 have hw64:IntKind.u64.wrap size=(size.toNat:Int):=by rw [IntKind.wrap_u64];omega
 have hwo:IntKind.u64.wrap (over:Int)=(over:Int):=by rw [IntKind.wrap_u64];omega
 have hw8:IntKind.u8.wrap (kl:Int)=(kl:Int):=by rw [IntKind.wrap_u8];omega
 have hV:=fun W=>u6 size.toNat (by omega) W;have d40:decide (40<size)=false:=dF (by omega);rw [KL.out,VL.out];have HSV:=lH (aI hsv hso);have HSZ:=lH hsz0;have HVL:=lH hvl;have HFF:=lH (aI hw64 (aI hw8 hV));clear hC hsv hso hsz0 hw64 hw8 hV hvl;go_enter Tryz.func120,Tryz.ntmps120
 go_wp2_with (go_at_call 152;refine (hI _).mono ?_;rintro e w2 ⟨rfl,hb2⟩;have hC2a:=HC.out.below hb2 HC.out.lt;have c1:w2.cell? ⟨w.heap.size,1,none⟩=some (.int .i64 size):=hC2a.cell 1;have c2:w2.cell? ⟨w.heap.size,2,none⟩=some (.slice va vl vc):=hC2a.cell 2)
 obtain ⟨hw64,hw8,hV⟩:=HFF.out;have hbw2:Below w.heap.size w w2:=((bR _ w).alloc (nR _) _).trans (hb2.mono (by simp));have hC2:=HC.out.below hb2 HC.out.lt;have hrv:=rM (hrv0.below (hbw2.mono hB)) (nT hB hbw2.size);have HNV:Hid (val.length=vl):=lH VL.out;clear c1 c2 hC2a;have hCx:=hC2;have k0:w2.cell? ⟨w.heap.size,0,none⟩=some (.slice ka kl kc):=hCx.cell 0;have k1:w2.cell? ⟨w.heap.size,1,none⟩=some (.int .i64 size):=hCx.cell 1
 have kS:∀ W,Below w2.heap.size w2 W->(W.cell? ⟨w.heap.size,0,none⟩=some (.slice ka kl kc)/\W.cell? ⟨w.heap.size,1,none⟩=some (.int .i64 size)):=fun W hW=>⟨(hW.cell (p:=⟨w.heap.size,0,none⟩) hCx.lt).trans k0,(hW.cell (p:=⟨w.heap.size,1,none⟩) hCx.lt).trans k1⟩
 have hbd:Below w2.heap.size w2 w2.drew:=(bR _ w2).drew;refine bB 14 (fun W0=>W0.cell? ⟨w.heap.size,0,none⟩=some (.slice ka kl kc)/\W0.cell? ⟨w.heap.size,1,none⟩=some (.int .i64 size)) (kS _ hbd) (fun hHeld hTl=>?_);refine ae 0 hTl hHeld (fun hTl=>?_)
 try simp only [pT]
 refine ae 1 hTl hHeld (fun hTl=>?_)
 try simp only [pT]
 refine ae 2 hTl hHeld (fun hTl=>?_)
 try simp only [pT]
 refine ae 3 hTl hHeld (fun hTl=>?_)
 try simp only [pT]
 refine ae 5 hTl hHeld (fun hTl=>?_)
 try simp only [pT]
 refine ae 6 hTl hHeld (fun hTl=>?_)
 try simp only [pT]
 refine ae 7 hTl hHeld (fun hTl=>?_)
 try simp only [pT]
 refine ae 8 hTl hHeld (fun hTl=>?_)
 try simp only [pT]
 refine ae 9 hTl hHeld (fun hTl=>?_)
 try simp only [pT]
 refine ae 11 hTl hHeld (fun hTl=>?_)
 try simp only [pT]
 clear hTl;refine gi 4 10 rfl rfl (by kernel_rfl) (fun K hK=>?_) (fun K hK=>?_)
 ·go_simp;have hb3a:Below w2.heap.size w2 (w2.drew.alloc (.cells #[.int .u8 (kl:Nat)] 5)):=hbd.alloc hbd.size _;refine hK.out _ _ (fun _=>kS _ hb3a) ?_;clear hK K
  try simp only [pT]
  refine sP 10 (hV _) ?_
  rintro e w4 ⟨Ap,cp,e3,hrp,hb4'⟩;subst e3;have hb4:Below w2.heap.size w2 w4:=hb3a.trans (hb4'.mono hb3a.size)
  refine ⟨_,rfl,(fun _=>kS _ hb4),?_⟩
  try simp only [pT]
  have hbw4:Below w.heap.size w w4:=hbw2.trans (hb4.mono hbw2.size);have hr1:=rM ((one_byte w2.drew kl (by omega)).below hb4') hb4'.size;have hr2:=rM (hr.below (hbw4.mono hB)) (nT hB hbw4.size);have hr3:=hrp;have hr4:=rM (hrv.below hb4) hb4.size;have hC:=Eu (c1:=1) (c2:=kc) (c3:=cp) (c4:=vc) hr1 hr2 hr3 hr4 (by simp only [lQ,List.length_singleton];have:=KL.out;have:=lu size.toNat;have:=HNV.out;have:=HVL.out;omega);simp only [List.length_singleton,KL.out,HNV.out] at hC
  obtain ⟨n5,N5⟩:∃ x,Hid (([UInt8.ofNat kl]++(key++(eV size.toNat++val))).length=x):=⟨_,lH rfl⟩
  rw [N5.out] at hC;refine aA 12 (fun K hK=>?_);go_simp;refine hK.out _ _ (fun _=>kS _ (hb4.alloc hb4.size _)) ?_;clear hK K
  try simp only [pT]
  refine sP 13 hC ?_;rintro e w5 ⟨v5,e5,ho5,hb5⟩;subst e5;obtain ⟨A5,c5,rfl⟩:=bw ho5;refine ⟨_,rfl,(fun _=>kS _ (hb4.trans (hb5.mono hb4.size))),?_⟩
  try simp only [pT]
  refine az 14 (fun K hK=>?_);go_simp;refine hK.out _ _ ?_;clear hK K
  try simp only [pT]
  refine az 15 (fun K hK=>?_);go_simp;refine hK.out _ _ ?_;clear hK K
  try simp only [pT]
  refine cW ?_ _;go_wp2;go_ret2;refine ⟨_,rfl,y6 (cj ho5 hbw4.size) ?_,hbw4.trans (hb5.mono hbw4.size)⟩;have e3:(UInt8.ofNat kl::(key++(eV size.toNat++val))).length=n5:=N5.out
  first
   | exact e3.symm
   | (rw [<-e3];simp;done)
   | (rw [<-e3];simp;omega)
 ·refine sC rfl 153 _ (by go_simp) (hV _) ?_;rintro e w6 ⟨Ap,cp,e3,hrp,hb6⟩;subst e3;refine ⟨_,rfl,?_⟩;have hbd6:Below w2.heap.size w2 w6:=hbd.trans (hb6.mono hbd.size);refine hK.out _ _ (fun _=>kS _ hbd6) ?_;clear hK K
  try simp only [pT]
  refine aA 4 (fun K hK=>?_);go_simp;refine hK.out _ _ (fun _=>kS _ (hbd6.alloc hbd6.size _)) ?_;clear hK K
  try simp only [pT]
  have hb4:Below w2.heap.size w2 (w6.alloc (.cells #[.int .u8 (kl:Nat)] 5)):=hbd6.alloc hbd6.size _;have hbw4:Below w.heap.size w (w6.alloc (.cells #[.int .u8 (kl:Nat)] 5)):=hbw2.trans (hb4.mono hbw2.size);have hba:Below w6.heap.size w6 (w6.alloc (.cells #[.int .u8 (kl:Nat)] 5)):=(bR _ w6).alloc (nR _) _;have hr1:=one_byte w6 kl (by omega);have hr2:=rM (hr.below (hbw4.mono hB)) (nT hB hbw4.size);have hr3:=rM (hrp.below hba) hba.size;have hr4:=rM (hrv.below hb4) hb4.size;have hC:=Eu (c1:=1) (c2:=kc) (c3:=cp) (c4:=vc) hr1 hr2 hr3 hr4 (by simp only [lQ,List.length_singleton];have:=KL.out;have:=lu size.toNat;have:=HNV.out;have:=HVL.out;omega);simp only [List.length_singleton,KL.out,HNV.out] at hC
  obtain ⟨n5,N5⟩:∃ x,Hid (([UInt8.ofNat kl]++(key++(eV size.toNat++val))).length=x):=⟨_,lH rfl⟩
  rw [N5.out] at hC;refine aA 12 (fun K hK=>?_);go_simp;refine hK.out _ _ (fun _=>kS _ (hb4.alloc hb4.size _)) ?_;clear hK K
  try simp only [pT]
  refine sP 13 hC ?_;rintro e w5 ⟨v5,e5,ho5,hb5⟩;subst e5;obtain ⟨A5,c5,rfl⟩:=bw ho5;refine ⟨_,rfl,(fun _=>kS _ (hb4.trans (hb5.mono hb4.size))),?_⟩
  try simp only [pT]
  refine az 14 (fun K hK=>?_);go_simp;refine hK.out _ _ ?_;clear hK K
  try simp only [pT]
  refine az 15 (fun K hK=>?_);go_simp;refine hK.out _ _ ?_;clear hK K
  try simp only [pT]
  refine cW ?_ _;go_wp2;go_ret2;refine ⟨_,rfl,y6 (cj ho5 hbw4.size) ?_,hbw4.trans (hb5.mono hbw4.size)⟩;have e3:(UInt8.ofNat kl::(key++(eV size.toNat++val))).length=n5:=N5.out
  first
   | exact e3.symm
   | (rw [<-e3];simp;done)
   | (rw [<-e3];simp;omega)
theorem sV {B:Nat} (ka:Option Addr) (kc:Nat) (key:List UInt8) (size:Int) (va:Option Addr) (vc:Nat) (val:List UInt8) (over kid:Nat) (w:World) (hB:B<=w.heap.size) (hr:Reads w B 1 ka key.length (bl key)) (hrv0:Reads w B 1 va val.length (bl val)) (h:iY key.length size val.length over kid=true) (ho:over<4294967296) (hsz:40<size) :
 Calls Tryz.prog 120 #[cellV ka key.length kc size va val.length vc over kid] w fun e w'=>∃ v,e=.returned (.tuple #[v,.int .i64 0])/\w'.ownsRow w.heap.size 5 1 v (UInt8.ofNat key.length::(key++(eV size.toNat++ag 4 over))).length (bl (UInt8.ofNat key.length::(key++(eV size.toNat++ag 4 over))))/\Below w.heap.size w w':=by
 have hI:=fun W=>kN ka key.length kc size va val.length vc over kid W;rw [h] at hI;unfold iY at h;rw [decide_eq_true_eq] at h;obtain ⟨hk1,hkl,hs0,hs1,hkid,hsv,hso⟩:=h;have HKID:=lH hkid;clear hkid;unfold cellV at hI ⊢;have hC:=jF w ka key.length kc size va val.length vc over kid
 obtain ⟨kl,KL⟩:∃ x,Hid (key.length=x):=⟨_,lH rfl⟩
 obtain ⟨vl,VL⟩:∃ x,Hid (val.length=x):=⟨_,lH rfl⟩
 rw [KL.out,VL.out] at hI hC;rw [KL.out] at hkl hk1
 have hvl:vl<=40:=by have:=VL.out;by_cases h40:size<=40;(have:=(hsv h40).1;omega);(have:=(hso (by omega)).1;omega)
 have HC:=lH hC
 obtain ⟨sz,hsz0⟩:∃ sz:Nat,size=sz:=⟨size.toNat,by omega⟩
 have hw64:IntKind.u64.wrap size=(size.toNat:Int):=by rw [IntKind.wrap_u64];omega
 have hwo:IntKind.u64.wrap (over:Int)=(over:Int):=by rw [IntKind.wrap_u64];omega
 have hw8:IntKind.u8.wrap (kl:Int)=(kl:Int):=by rw [IntKind.wrap_u8];omega
 have hV:=fun W=>u6 size.toNat (by omega) W;have d40:decide (40<size)=true:=dT (by omega);rw [KL.out,VL.out];have HSV:=lH (aI hsv hso);have HSZ:=lH hsz0;have HVL:=lH hvl;have HFF:=lH (aI hw64 (aI hw8 hV));clear hC hsv hso hsz0 hw64 hw8 hV hvl;go_enter Tryz.func120,Tryz.ntmps120
 go_wp2_with (first
  | (go_at_call 152;refine (hI _).mono ?_;rintro e w2 ⟨rfl,hb2⟩;have hC2a:=HC.out.below hb2 HC.out.lt;have c1:w2.cell? ⟨w.heap.size,1,none⟩=some (.int .i64 size):=hC2a.cell 1;have c2:w2.cell? ⟨w.heap.size,2,none⟩=some (.slice va vl vc):=hC2a.cell 2;have c3:w2.cell? ⟨w.heap.size,3,none⟩=some (.int .u32 (over:Nat)):=hC2a.cell 3)
  | (go_at_call 115;refine (ea over 4 (by omega) (by omega) (by omega) _).mono ?_;rintro e w3 ⟨g,rfl,hg,hB3,hb3⟩))
 obtain ⟨hw64,hw8,hV⟩:=HFF.out;have hbw2:Below w.heap.size w w2:=((bR _ w).alloc (nR _) _).trans (hb2.mono (by simp));have hC2:=HC.out.below hb2 HC.out.lt;have hbw3:Below w.heap.size w w3:=hbw2.trans (hb3.mono hbw2.size);have hC3:=hC2.below hb3 hC2.lt;have hrv:=rB hB3 rfl;have HNV:Hid ((ag 4 over).length=4):=lH (fL 4 over);clear c1 c2 c3 hC2a;have hCx:=hC3;have k0:w3.cell? ⟨w.heap.size,0,none⟩=some (.slice ka kl kc):=hCx.cell 0;have k1:w3.cell? ⟨w.heap.size,1,none⟩=some (.int .i64 size):=hCx.cell 1
 have kS:∀ W,Below w3.heap.size w3 W->(W.cell? ⟨w.heap.size,0,none⟩=some (.slice ka kl kc)/\W.cell? ⟨w.heap.size,1,none⟩=some (.int .i64 size)):=fun W hW=>⟨(hW.cell (p:=⟨w.heap.size,0,none⟩) hCx.lt).trans k0,(hW.cell (p:=⟨w.heap.size,1,none⟩) hCx.lt).trans k1⟩
 have hbd:Below w3.heap.size w3 w3.drew:=(bR _ w3).drew;refine bB 14 (fun W0=>W0.cell? ⟨w.heap.size,0,none⟩=some (.slice ka kl kc)/\W0.cell? ⟨w.heap.size,1,none⟩=some (.int .i64 size)) (kS _ hbd) (fun hHeld hTl=>?_);refine ae 0 hTl hHeld (fun hTl=>?_)
 try simp only [pT]
 refine ae 1 hTl hHeld (fun hTl=>?_)
 try simp only [pT]
 refine ae 2 hTl hHeld (fun hTl=>?_)
 try simp only [pT]
 refine ae 3 hTl hHeld (fun hTl=>?_)
 try simp only [pT]
 refine ae 5 hTl hHeld (fun hTl=>?_)
 try simp only [pT]
 refine ae 6 hTl hHeld (fun hTl=>?_)
 try simp only [pT]
 refine ae 7 hTl hHeld (fun hTl=>?_)
 try simp only [pT]
 refine ae 8 hTl hHeld (fun hTl=>?_)
 try simp only [pT]
 refine ae 9 hTl hHeld (fun hTl=>?_)
 try simp only [pT]
 refine ae 11 hTl hHeld (fun hTl=>?_)
 try simp only [pT]
 clear hTl;refine gi 4 10 rfl rfl (by kernel_rfl) (fun K hK=>?_) (fun K hK=>?_)
 ·go_simp;have hb3a:Below w3.heap.size w3 (w3.drew.alloc (.cells #[.int .u8 (kl:Nat)] 5)):=hbd.alloc hbd.size _;refine hK.out _ _ (fun _=>kS _ hb3a) ?_;clear hK K
  try simp only [pT]
  refine sP 10 (hV _) ?_
  rintro e w4 ⟨Ap,cp,e3,hrp,hb4'⟩;subst e3;have hb4:Below w3.heap.size w3 w4:=hb3a.trans (hb4'.mono hb3a.size)
  refine ⟨_,rfl,(fun _=>kS _ hb4),?_⟩
  try simp only [pT]
  have hbw4:Below w.heap.size w w4:=hbw3.trans (hb4.mono hbw3.size);have hr1:=rM ((one_byte w3.drew kl (by omega)).below hb4') hb4'.size;have hr2:=rM (hr.below (hbw4.mono hB)) (nT hB hbw4.size);have hr3:=hrp;have hr4:=rM (hrv.below hb4) hb4.size;have hC:=Eu (c1:=1) (c2:=kc) (c3:=cp) (c4:=4) hr1 hr2 hr3 hr4 (by simp only [lQ,List.length_singleton];have:=KL.out;have:=lu size.toNat;have:=HNV.out;have:=HVL.out;omega);simp only [List.length_singleton,KL.out,HNV.out] at hC
  obtain ⟨n5,N5⟩:∃ x,Hid (([UInt8.ofNat kl]++(key++(eV size.toNat++(ag 4 over)))).length=x):=⟨_,lH rfl⟩
  rw [N5.out] at hC;refine aA 12 (fun K hK=>?_);go_simp;refine hK.out _ _ (fun _=>kS _ (hb4.alloc hb4.size _)) ?_;clear hK K
  try simp only [pT]
  refine sP 13 hC ?_;rintro e w5 ⟨v5,e5,ho5,hb5⟩;subst e5;obtain ⟨A5,c5,rfl⟩:=bw ho5;refine ⟨_,rfl,(fun _=>kS _ (hb4.trans (hb5.mono hb4.size))),?_⟩
  try simp only [pT]
  refine az 14 (fun K hK=>?_);go_simp;refine hK.out _ _ ?_;clear hK K
  try simp only [pT]
  refine az 15 (fun K hK=>?_);go_simp;refine hK.out _ _ ?_;clear hK K
  try simp only [pT]
  refine cW ?_ _;go_wp2;go_ret2;refine ⟨_,rfl,y6 (cj ho5 hbw4.size) ?_,hbw4.trans (hb5.mono hbw4.size)⟩;have e3:(UInt8.ofNat kl::(key++(eV size.toNat++(ag 4 over)))).length=n5:=N5.out
  first
   | exact e3.symm
   | (rw [<-e3];simp;done)
   | (rw [<-e3];simp;omega)
 ·refine sC rfl 153 _ (by go_simp) (hV _) ?_;rintro e w6 ⟨Ap,cp,e3,hrp,hb6⟩;subst e3;refine ⟨_,rfl,?_⟩;have hbd6:Below w3.heap.size w3 w6:=hbd.trans (hb6.mono hbd.size);refine hK.out _ _ (fun _=>kS _ hbd6) ?_;clear hK K
  try simp only [pT]
  refine aA 4 (fun K hK=>?_);go_simp;refine hK.out _ _ (fun _=>kS _ (hbd6.alloc hbd6.size _)) ?_;clear hK K
  try simp only [pT]
  have hb4:Below w3.heap.size w3 (w6.alloc (.cells #[.int .u8 (kl:Nat)] 5)):=hbd6.alloc hbd6.size _;have hbw4:Below w.heap.size w (w6.alloc (.cells #[.int .u8 (kl:Nat)] 5)):=hbw3.trans (hb4.mono hbw3.size);have hba:Below w6.heap.size w6 (w6.alloc (.cells #[.int .u8 (kl:Nat)] 5)):=(bR _ w6).alloc (nR _) _;have hr1:=one_byte w6 kl (by omega);have hr2:=rM (hr.below (hbw4.mono hB)) (nT hB hbw4.size);have hr3:=rM (hrp.below hba) hba.size;have hr4:=rM (hrv.below hb4) hb4.size;have hC:=Eu (c1:=1) (c2:=kc) (c3:=cp) (c4:=4) hr1 hr2 hr3 hr4 (by simp only [lQ,List.length_singleton];have:=KL.out;have:=lu size.toNat;have:=HNV.out;have:=HVL.out;omega);simp only [List.length_singleton,KL.out,HNV.out] at hC
  obtain ⟨n5,N5⟩:∃ x,Hid (([UInt8.ofNat kl]++(key++(eV size.toNat++(ag 4 over)))).length=x):=⟨_,lH rfl⟩
  rw [N5.out] at hC;refine aA 12 (fun K hK=>?_);go_simp;refine hK.out _ _ (fun _=>kS _ (hb4.alloc hb4.size _)) ?_;clear hK K
  try simp only [pT]
  refine sP 13 hC ?_;rintro e w5 ⟨v5,e5,ho5,hb5⟩;subst e5;obtain ⟨A5,c5,rfl⟩:=bw ho5;refine ⟨_,rfl,(fun _=>kS _ (hb4.trans (hb5.mono hb4.size))),?_⟩
  try simp only [pT]
  refine az 14 (fun K hK=>?_);go_simp;refine hK.out _ _ ?_;clear hK K
  try simp only [pT]
  refine az 15 (fun K hK=>?_);go_simp;refine hK.out _ _ ?_;clear hK K
  try simp only [pT]
  refine cW ?_ _;go_wp2;go_ret2;refine ⟨_,rfl,y6 (cj ho5 hbw4.size) ?_,hbw4.trans (hb5.mono hbw4.size)⟩;have e3:(UInt8.ofNat kl::(key++(eV size.toNat++(ag 4 over)))).length=n5:=N5.out
  first
   | exact e3.symm
   | (rw [<-e3];simp;done)
   | (rw [<-e3];simp;omega)
theorem fM (n:Nat) (hn:n<4294967296) (w:World):Calls Tryz.prog 114 #[.int .u32 n] w fun e w'=>∃ g,e=.returned (.slice (some ⟨g,0,none⟩) 4 4)/\w.heap.size<=g/\aa w' g 5 (bl (ag 4 n)).toArray/\Below w.heap.size w w':=by
 have hF:=ea n 4 (by omega) (by omega) (by omega);go_enter Tryz.func114,Tryz.ntmps114
 go_wp2_with (go_at_call 115;refine (hF _).mono ?_;rintro e w2 ⟨g,rfl,hg,hB,hb⟩)
 go_ret;exact ⟨g,rfl,hg,hB,hb⟩
theorem Ew {b:List UInt8} (h:b.length<=243):ip (zB 243) 0 b=cR b:=by
 unfold ip cR zB;rw [List.take_zero,List.nil_append,List.drop_replicate];simp
theorem pf {B:Nat} (g cap:Nat) (ps:List Pt) (w:World) (hB:B<=w.heap.size) (hg:∀ k p,ps[k]?=some p->w.cell? ⟨g,k,none⟩=some p.val) (hr:∀ p∈ps,Reads w B 1 p.A p.b.length (bl p.b)) (hs:(fA ps).length<=243) (hl:ps.length<=100) (hgl:g<w.heap.size) :
 Calls Tryz.prog 113 #[.slice (some ⟨g,0,none⟩) ps.length cap] w fun e w'=>∃ g',e=.returned (.slice (some ⟨g',0,none⟩) 243 243)/\w.heap.size<=g'/\aa w' g' 5 (bl (cR (fA ps))).toArray/\Below w.heap.size w w':=by
 have hm:∀ W:World,(Instr.makeSlice 23 (.int .i64 243) (.int .i64 243)).run Tryz.prog W=.ok (.slice (some ⟨W.heap.size,0,none⟩) 243 243) (W.alloc (.cells (bl (zB 243)).toArray 5)):=fun W=>sU 243 (by omega) W;have hb1:Below w.heap.size w (w.alloc (.cells (bl (zB 243)).toArray 5)):=(bR _ w).alloc (nR _) _;have bG:=aa.new w 5 (bl (zB 243)).toArray;have hC:=ik (B:=B) g cap ps (w.alloc (.cells (bl (zB 243)).toArray 5)) (nT hB hb1.size) (fun k p hk=>(hb1.cell (p:=⟨g,k,none⟩) hgl).trans (hg k p hk)) (fun p hp=>(hr p hp).below (hb1.mono hB)) (by omega) hl
 obtain ⟨c,HC⟩:∃ x,Hid (fA ps=x):=⟨_,lH rfl⟩
 rw [HC.out] at hC hs ⊢
 obtain ⟨n,HN⟩:∃ x,Hid (c.length=x):=⟨_,lH rfl⟩
 rw [HN.out] at hC hs;have HB:=lH bG;clear hg hr bG;go_enter Tryz.func113,Tryz.ntmps113
 go_wp2_with (first
  | (go_at_call 147;refine hC.mono ?_;rintro e w2 ⟨v,rfl,ho2,hb2⟩;obtain ⟨A2,c2,rfl⟩:=bw ho2;have bG2:=HB.out.below hb2 (by simp))
  | (refine uX rfl (.tmp 5) (.tmp 7) rfl rfl rfl w.heap.size 0 5 (zB 243) c bG2 rfl (Reads.of_own ho2) (by omega) (by rw [gC];omega) ?_;intro w3 bG3 hf3))
 rw [Ew (by rw [HN.out];omega)] at bG3;have hb12:Below w.heap.size w w2:=hb1.trans (hb2.mono hb1.size);go_ret;exact ⟨_,rfl,nR _,bG3,hb12.trans (hf3.below hb12.size (fun k hk=>by omega))⟩
def y7 (root pages free:Nat):Bool:=decide (2<=pages/\pages<=512/\1<=root/\root<pages/\free<pages)
theorem xi (root pages free entries:Nat) (w:World) :
 Calls Tryz.prog 84 #[.agg #[.int .u32 root,.int .u32 pages,.int .u32 free,.int .u64 entries]] w fun e w'=>e=.returned (.bool (y7 root pages free))/\Below w.heap.size w w':=by
 go_enter Tryz.func84,Tryz.ntmps84;go_wp2
 all_goals
  go_ret;refine ⟨lz ?_,(bR _ _).alloc (nR _) _⟩;unfold y7
  first
   | (rw [Bool.eq_iff_iff];simp only [decide_eq_true_eq,beq_iff_eq,Bool.false_eq_true,false_iff];omega)
   | (rw [Bool.eq_iff_iff];simp;omega)
theorem ir {w:World} {B:Nat} {A:Option Addr} {b:List UInt8} (c:Nat) (h:Reads w B 1 A b.length (bl b)):(convert 23 9 (.slice A b.length c)).run Tryz.prog w=.ok (.string ⟨b.toArray⟩) w:=by
 have hnil:b.length=0->b=[]:=fun h0=>List.eq_nil_of_length_eq_zero h0
 have hbl:bl b=(b.map fun x=>(x.toNat:Int)).map (Value.int .u8):=by
  unfold bl;rw [List.map_map];rfl
 cases A with
 | none =>
  have h0:b.length=0:=by
   rcases Nat.eq_zero_or_pos b.length with h0 | h0
   ·exact h0
   ·obtain ⟨p,hp,_⟩:=h.2 h0
    cases hp
  obtain rfl:=hnil h0;exact run_convert_bytes_nil w 23 5 Tryz.underlying23 Tryz.underlying5 _ c 9 Tryz.underlying9
 | some p =>
  have hl:(loadCells p b.length).run Tryz.prog w=.ok ((b.map fun x=>(x.toNat:Int)).map (Value.int .u8)).toArray w:=by
   have:=run_loadCells_list (P:=Tryz.prog) (w:=w) p (bl b) (fun j v hj=>by
    have hj':j<b.length:=by have:=(lS.1 hj).1;simpa [bl] using this
    obtain ⟨q,hq,_,hc⟩:=h.2 (by omega)
    cases hq
    exact hc j v hj)
   rw [hbl] at this
   simpa using this
  rw [run_convert_bytes_string w 23 9 5 _ b.length c Tryz.underlying23 Tryz.underlying5 Tryz.underlying9,run_bytesToString w _ b.length c _ hl,foldl_push_bytes];congr 2;simp only [List.map_map];rw [List.map_congr_left (g:=id) (fun x _=>by simp),List.map_id];simp [ByteArray.empty,ByteArray.emptyWithCapacity];rfl
theorem dI {B1 B2:Nat} {A1 A2:Option Addr} {a b:List UInt8} (c1 c2:Nat) (w:World) (h1:Reads w B1 1 A1 a.length (bl a)) (h2:Reads w B2 1 A2 b.length (bl b)) :
 Calls Tryz.prog 81 #[.slice A1 a.length c1,.slice A2 b.length c2] w fun e w'=>e=.returned (.bool (decide (a=b)))/\w'=w:=by
 have k1:=ir c1 h1;have k2:=ir c2 h2;go_enter Tryz.func81,Tryz.ntmps81;go_wp2;go_ret;exact ⟨lz (by rw [Bool.eq_iff_iff,beq_iff_eq,decide_eq_true_eq]),rfl⟩
theorem run_loadBytes {P:Program} {w:World}:∀ (b:List UInt8) (p:Addr) (acc:ByteArray),(∀ j u,(bl b)[j]?=some u->w.cell? (p.add j)=some u)->(Extern.Bytes.loadBytes p b.length acc).run P w=.ok ⟨acc.data++b.toArray⟩ w
 | [],p,acc,_=>by simp [Extern.Bytes.loadBytes]
 | x::b,p,acc,h=>by
  have h0:w.cell? p=some (.int .u8 (x.toNat:Nat)):=by
   have:=h 0 _ rfl
   rwa [show p.add 0=p by unfold Addr.add;rw [if_pos rfl]] at this
  have ih:=run_loadBytes (P:=P) (w:=w) b (p.add 1) (acc.push x) (fun j u hu=>by
   rw [oU,Nat.add_comm]
   exact h (j+1) u hu)
  show (Extern.Bytes.loadBytes p (b.length+1) acc).run P w=_;unfold Extern.Bytes.loadBytes
  have hld:(load p).run P w=.ok (.int .u8 (x.toNat:Nat)) w:=by simp [run_load,h0]
  simp only [Sem.run_bind,hld,Result.andThen]
  have hx:((x.toNat:Nat):Int).toNat.toUInt8=x:=by simp
  rw [hx];refine (congrArg (fun r=>r) ih).trans ?_;simp [ByteArray.push]
theorem nw {P:Program} {w:World} {B:Nat} {A:Option Addr} {b:List UInt8} (c:Nat) (h:Reads w B 1 A b.length (bl b)):(Extern.Bytes.bytesOf (.slice A b.length c)).run P w=.ok ⟨b.toArray⟩ w:=by
 cases A with
 | none =>
  have h0:b=[]:=by
   rcases Nat.eq_zero_or_pos b.length with h0 | h0
   ·exact List.eq_nil_of_length_eq_zero h0
   ·obtain ⟨p,hp,_⟩:=h.2 h0
    cases hp
  subst h0;rfl
 | some p =>
  have:=run_loadBytes (P:=P) (w:=w) b p .empty (fun j u hu=>by
   have hj':j<b.length:=by have:=(lS.1 hu).1;simpa [bl] using this
   obtain ⟨q,hq,_,hc⟩:=h.2 (by omega)
   cases hq
   exact hc j u hu)
  unfold Extern.Bytes.bytesOf;rw [this];simp
theorem u9 {P:Program} {w:World} {B1 B2:Nat} {A1 A2:Option Addr} {a b:List UInt8} (c1 c2:Nat) (h1:Reads w B1 1 A1 a.length (bl a)) (h2:Reads w B2 1 A2 b.length (bl b)) :
 (Extern.BytealgCompare.compare #[.slice A1 a.length c1,.slice A2 b.length c2]).run P w=.ok (.int .i64 (Lib.compareBytes a b)) w:=by
 change Sem.run P (do pure (goInt (Extern.BytealgCompare.cmp (<-Extern.Bytes.bytesOf (.slice A1 a.length c1)) (<-Extern.Bytes.bytesOf (.slice A2 b.length c2))))) w=_;simp only [Sem.run_bind,nw c1 h1,nw c2 h2,Sem.run_pure,Result.andThen];rw [Lib.cmp_eq];rfl
theorem i6:∀ a b:List UInt8,(Lib.compareBytes a b<0)↔a<b
 | [],[]=>by simp [Lib.compareBytes]
 | [],_::_=>by simp [Lib.compareBytes]
 | _::_,[]=>by simp [Lib.compareBytes]
 | a::s,b::t=>by
  unfold Lib.compareBytes;rw [List.cons_lt_cons_iff];by_cases h1:a<b
  ·rw [if_pos h1];simp [h1]
  ·rw [if_neg h1];by_cases h2:b<a
   ·rw [if_pos h2];constructor
    ·intro h;omega
    ·rintro (h | ⟨rfl,_⟩)
     ·exact absurd h h1
     ·exact absurd h2 (UInt8.lt_irrefl _)
   ·rw [if_neg h2,i6 s t];have e:a=b:=UInt8.le_antisymm (UInt8.not_lt.1 h2) (UInt8.not_lt.1 h1);constructor
    ·intro h;exact .inr ⟨e,h⟩
    ·rintro (h | ⟨_,h⟩)
     ·exact absurd h h1
     ·exact h
def Aw:List (List UInt8)->Bool
 | a::b::l=>decide (a=b) || Aw (b::l)
 | _=>false
def y8:List (List UInt8)->Bool
 | a::b::l=>!decide (b<a) && y8 (b::l)
 | _=>true
theorem Cu:∀ a b:List UInt8,a<b\/a=b\/b<a
 | [],[]=>.inr (.inl rfl)
 | [],_::_=>.inl (List.nil_lt_cons ..)
 | _::_,[]=>.inr (.inr (List.nil_lt_cons ..))
 | a::s,b::t=>by
  rw [List.cons_lt_cons_iff,List.cons_lt_cons_iff]
  rcases (show a<b\/a=b\/b<a by rcases Nat.lt_trichotomy a.toNat b.toNat with h | h | h;exact .inl (UInt8.lt_iff_toNat_lt.2 h);exact .inr (.inl (UInt8.toNat_inj.1 h));exact .inr (.inr (UInt8.lt_iff_toNat_lt.2 h))) with h | h | h
  ·exact .inl (.inl h)
  ·subst h
   rcases Cu s t with h | h | h
   ·exact .inl (.inr ⟨rfl,h⟩)
   ·subst h;exact .inr (.inl rfl)
   ·exact .inr (.inr (.inr ⟨rfl,h⟩))
  ·exact .inr (.inr (.inl h))
theorem Cv {a b:List UInt8} (h1:a<b) (h2:b<a):False:=by
 induction a generalizing b with
 | nil=>cases b <;> simp at h1 h2
 | cons x a ih =>
  cases b with
  | nil=>simp at h1
  | cons y b =>
   rw [List.cons_lt_cons_iff] at h1 h2
   rcases h1 with h1 | ⟨rfl,h1⟩
   ·rcases h2 with h2 | ⟨rfl,h2⟩
    ·exact absurd (UInt8.lt_trans h1 h2) (UInt8.lt_irrefl _)
    ·exact absurd h1 (UInt8.lt_irrefl _)
   ·rcases h2 with h2 | ⟨_,h2⟩
    ·exact absurd h2 (UInt8.lt_irrefl _)
    ·exact ih h1 h2
theorem F8 (a b:List UInt8):decide (a<b)=(!decide (a=b) && !decide (b<a)):=by
 rcases Cu a b with h | h | h
 ·have h2:¬ b<a:=fun h2=>Cv h h2
  have h3:a≠b:=fun e=>by subst e;exact h2 h
  simp [h,h2,h3]
 ·subst h;have h2:¬ a<a:=fun h2=>Cv h2 h2;simp [h2]
 ·have h2:¬ a<b:=fun h2=>Cv h h2;simp [h,h2]
theorem pi:∀ l:List PC,kr l=(!Aw (l.map PC.key) && y8 (l.map PC.key))
 | []=>rfl
 | [_]=>rfl
 | a::b::l=>by
  have ih:=pi (b::l);unfold kr;rw [ih,F8];simp only [List.map_cons,Aw,y8]
  cases decide (a.key=b.key) <;> cases decide (b.key<a.key) <;> cases Aw (b.key::l.map PC.key) <;> cases y8 (b.key::l.map PC.key) <;> rfl
theorem sW:∀ l:List (List UInt8),Aw l=true↔∃ i a,l[i]?=some a/\l[i+1]?=some a
 | []=>by simp [Aw]
 | [_]=>by simp [Aw]
 | a::b::l=>by
  unfold Aw;rw [Bool.or_eq_true,decide_eq_true_eq,sW (b::l)];constructor
  ·rintro (rfl | ⟨i,c,h1,h2⟩)
   ·exact ⟨0,a,rfl,rfl⟩
   ·exact ⟨i+1,c,h1,h2⟩
  ·rintro ⟨i,c,h1,h2⟩
   rcases i with _ | i
   ·simp at h1 h2;exact .inl (h1.trans h2.symm)
   ·exact .inr ⟨i,c,h1,h2⟩
theorem sX:∀ l:List (List UInt8),y8 l=true↔∀ i a b,l[i]?=some a->l[i+1]?=some b->¬ b<a
 | []=>by simp [y8]
 | [_]=>by simp [y8]
 | a::b::l=>by
  unfold y8;rw [Bool.and_eq_true,Bool.not_eq_true',decide_eq_false_iff_not,sX (b::l)];constructor
  ·rintro ⟨h0,h⟩ i c d h1 h2
   rcases i with _ | i
   ·simp at h1 h2;subst h1;subst h2;exact h0
   ·exact h i c d h1 h2
  ·intro h;exact ⟨h 0 a b rfl rfl,fun i c d h1 h2=>h (i+1) c d h1 h2⟩
def pj (kind:Int):Bool:=decide (kind=3\/kind=2)
theorem fm (kind:Int) (w:World):Calls Tryz.prog 119 #[.int .i64 kind] w fun e w'=>e=.returned (.bool (pj kind))/\w'=w:=by
 go_enter Tryz.func119,Tryz.ntmps119;go_wp2
 all_goals
  go_ret;refine ⟨lz ?_,rfl⟩;unfold pj
  first
   | (rw [Bool.eq_iff_iff];simp only [decide_eq_true_eq,beq_iff_eq,Bool.false_eq_true,false_iff];omega)
   | (rw [Bool.eq_iff_iff];simp;omega)
   | (rw [Bool.eq_iff_iff];simp)
def aJ (kind:Int) (lsn:Nat) (ca:Option Addr) (cl cc:Nat) (next:Nat) (da:Option Addr) (dl dc:Nat) (root pages free entries:Nat):Value :=
 .agg #[.int .i64 kind,.int .u64 lsn,.slice ca cl cc,.int .u32 next,.slice da dl dc,.int .u32 root,.int .u32 pages,.int .u32 free,.int .u64 entries]
def mN (kind:Int) (cl next dl root pages free entries:Nat):Bool :=
 decide ((kind=1\/(root=0/\pages=0/\free=0/\entries=0))/\((kind=3\/kind=2)\/cl=0)/\(kind=4\/dl=0)/\((kind=4\/kind=5)\/next=0))
theorem head_eq (root pages free entries:Nat) (w:World):(binOp .eql 79 (.agg #[.int .u32 root,.int .u32 pages,.int .u32 free,.int .u64 entries]) (.agg #[.int .u32 0,.int .u32 0,.int .u32 0,.int .u64 0])).run Tryz.prog w=.ok (.bool (decide (root=0/\pages=0/\free=0/\entries=0))) w:=by
 have u1:=Tryz.underlying77;have a1:=Tryz.isAgg77;have z1:=Tryz.sizeOf77;have u2:=Tryz.underlying58;have a2:=Tryz.isAgg58;have z2:=Tryz.sizeOf58
 have hS:Tryz.prog.underlying 79=some (.struct (Tryz.prog.fieldsOf 79)):=by kernel_rfl
 have hp:Tryz.prog.stoodInHeld 79=false:=by kernel_rfl
 rw [run_eql_struct,show (10000:Nat)=9999+1 from rfl,run_equalIn_agg w 9999 79 _ _ hS hp];simp only [Program.fieldsOf,Tryz.underlying79];go_simp;by_cases h1:root=0 <;> by_cases h2:pages=0 <;> by_cases h3:free=0 <;> by_cases h4:entries=0 <;> simp [h1,h2,h3,h4]
theorem i7 (kind:Int) (lsn:Nat) (ca:Option Addr) (cl cc:Nat) (next:Nat) (da:Option Addr) (dl dc:Nat) (root pages free entries:Nat) (w:World) :
 Calls Tryz.prog 83 #[aJ kind lsn ca cl cc next da dl dc root pages free entries] w fun e w'=>e=.returned (.bool (mN kind cl next dl root pages free entries))/\Below w.heap.size w w':=by
 unfold aJ;have hH:=fun W=>fm kind W
 obtain ⟨hc,HC⟩:∃ x,Hid (pj kind=x):=⟨_,lH rfl⟩
 rw [HC.out] at hH;have hE:=head_eq root pages free entries
 obtain ⟨hz,HZ⟩:∃ x,Hid (decide (root=0/\pages=0/\free=0/\entries=0)=x):=⟨_,lH rfl⟩
 rw [HZ.out] at hE
 have hfin:(((kind==1) || hz) && (hc || (cl==0)) && ((kind==4) || (dl==0)) && ((kind==4) || (kind==5) || (next==0)))=mN kind cl next dl root pages free entries:=by
  unfold mN;rw [<-HC.out,<-HZ.out];unfold pj;rw [Bool.eq_iff_iff];simp [and_assoc,or_assoc]
 have HF:=lH hfin;clear hfin
 obtain ⟨x1,k1⟩:∃ x,(kind==1)=x:=⟨_,rfl⟩
 obtain ⟨x4,k4⟩:∃ x,(kind==4)=x:=⟨_,rfl⟩
 obtain ⟨x5,k5⟩:∃ x,(kind==5)=x:=⟨_,rfl⟩
 have e1:((cl:Int)==0)=(cl==0):=by rw [Bool.eq_iff_iff];simp
 have e2:((dl:Int)==0)=(dl==0):=by rw [Bool.eq_iff_iff];simp
 have e3:((next:Int)==0)=(next==0):=by rw [Bool.eq_iff_iff];simp
 obtain ⟨y1,l1⟩:∃ x,(cl==0)=x:=⟨_,rfl⟩
 obtain ⟨y2,l2⟩:∃ x,(dl==0)=x:=⟨_,rfl⟩
 obtain ⟨y3,l3⟩:∃ x,(next==0)=x:=⟨_,rfl⟩
 rw [l1] at e1;rw [l2] at e2;rw [l3] at e3;have HF2:Hid (((x1 || hz) && (hc || y1) && (x4 || y2) && (x4 || x5 || y3))=mN kind cl next dl root pages free entries):=lH (by rw [<-HF.out,k1,k4,k5,l1,l2,l3]);clear HF HC HZ l1 l2 l3
 cases x1 <;> cases x4 <;> cases x5 <;> cases hc
 all_goals
  go_enter Tryz.func83,Tryz.ntmps83
  go_wp2_with (go_at_call 119;refine (hH _).mono ?_;rintro e w2 ⟨rfl,hb2⟩)
  all_goals
   subst hb2;go_ret;refine ⟨lz ?_,(bR _ _).alloc (nR _) _⟩;rw [<-HF2.out];simp_all
structure CX where
 ka:Option Addr
 kc:Nat
 va:Option Addr
 vc:Nat
 c:PC
def CX.val (x:CX):Value:=cellV x.ka x.c.key.length x.kc x.c.size x.va x.c.val.length x.vc x.c.over x.c.kid
def CX.cells (x:CX):List Value:=[.slice x.ka x.c.key.length x.kc,.int .i64 x.c.size,.slice x.va x.c.val.length x.vc,.int .u32 (x.c.over:Nat),.int .u32 (x.c.kid:Nat)]
structure bf (w:World) (B:Nat) (A:Option Addr) (l:List CX):Prop where
 row:l=[]\/∃ g o,A=some ⟨g,o,none⟩/\g<B/\∀ k x,l[k]?=some x->∀ j u,x.cells[j]?=some u->w.cell? ⟨g,o+k*5+j,none⟩=some u
 key:∀ x∈l,Reads w B 1 x.ka x.c.key.length (bl x.c.key)
 val:∀ x∈l,Reads w B 1 x.va x.c.val.length (bl x.c.val)
theorem bf.at_ {w:World} {B:Nat} {A:Option Addr} {l:List CX} (h:bf w B A l) (h0:0<l.length):∃ g o,A=some ⟨g,o,none⟩/\g<B/\∀ k x,l[k]?=some x ->
 w.cell? ⟨g,o+k*5,none⟩=some (.slice x.ka x.c.key.length x.kc)/\w.cell? ⟨g,o+k*5+1,none⟩=some (.int .i64 x.c.size)/\w.cell? ⟨g,o+k*5+2,none⟩=some (.slice x.va x.c.val.length x.vc) /\
 w.cell? ⟨g,o+k*5+3,none⟩=some (.int .u32 (x.c.over:Nat))/\w.cell? ⟨g,o+k*5+4,none⟩=some (.int .u32 (x.c.kid:Nat)):=by
 rcases h.row with rfl | ⟨g,o,e,hg,hc⟩
 ·simp at h0
 ·exact ⟨g,o,e,hg,fun k x hx=>⟨hc k x hx 0 _ rfl,hc k x hx 1 _ rfl,hc k x hx 2 _ rfl,hc k x hx 3 _ rfl,hc k x hx 4 _ rfl⟩⟩
theorem bf.below {w w':World} {B:Nat} {A:Option Addr} {l:List CX} (h:bf w B A l) (hb:Below B w w'):bf w' B A l:=by
 refine ⟨?_,fun x hx=>(h.key x hx).below hb,fun x hx=>(h.val x hx).below hb⟩
 rcases h.row with h0 | ⟨g,o,e,hg,hc⟩
 ·exact .inl h0
 ·exact .inr ⟨g,o,e,hg,fun k x hx j u hu=>(hb.cell (p:=⟨g,o+k*5+j,none⟩) hg).trans (hc k x hx j u hu)⟩
theorem bf.mono {w:World} {B B':Nat} {A:Option Addr} {l:List CX} (h:bf w B A l) (hb:B<=B'):bf w B' A l:=by
 refine ⟨?_,fun x hx=>rM (h.key x hx) hb,fun x hx=>rM (h.val x hx) hb⟩
 rcases h.row with h0 | ⟨g,o,e,hg,hc⟩
 ·exact .inl h0
 ·exact .inr ⟨g,o,e,lT hg hb,hc⟩
def cd (l:List CX):List (List UInt8):=l.map fun x=>x.c.key
theorem lB {B:Nat} {A:Option Addr} {l:List CX} (c:Nat) (w:World) (h:bf w B A l) (hl:l.length<=3000000) (hB:B<=w.heap.size) :
 Calls Tryz.prog 89 #[.slice A l.length c] w fun e w'=>e=.returned (.bool (Aw (cd l)))/\Below w.heap.size w w':=by
 have H:=lH h;clear h;go_enter Tryz.func89,Tryz.ntmps89;go_wp2
 go_loopw [3] (fun i wr=>∃ k:Nat,1<=k/\k<=l.length+1/\i=.int .i64 k/\(∀ j a b,j+1<k->(cd l)[j]?=some a->(cd l)[j+1]?=some b->a≠b)/\Below w.heap.size w wr) (fun i _=>l.length+1-(intOf i).toNat)
 case atStart=>exact ⟨1,nR _,by omega,rfl,fun j a b hj=>by omega,bR _ _⟩
 case round =>
  obtain ⟨k,hk1,hk2,rfl,hno,hb⟩:=hrel;have HNO:=lH hno;clear hno
  obtain ⟨wo,rfl⟩:∃ wo,wo=wr:=⟨wr,rfl⟩
  by_cases hlt:k<l.length
  ·have d1:decide (k<l.length)=true:=dT hlt
   obtain ⟨m,HM⟩:∃ m,Hid (k-1=m):=⟨_,lH rfl⟩
   have hm:m<l.length:=by have:=HM.out;omega
   obtain ⟨x,hx⟩:∃ x,l[m]?=some x:=⟨_,gE hm⟩
   obtain ⟨y,hy⟩:∃ y,l[k]?=some y:=⟨_,gE hlt⟩
   have hc:=(H.out.below (hb.mono hB)).at_ (by omega);obtain ⟨g,o,rfl,hg,hc⟩:=hc;have c1:=(hc m x hx).1;have c2:=(hc k y hy).1;have r1:=(H.out.below (hb.mono hB)).key x (mG hx);have r2:=(H.out.below (hb.mono hB)).key y (mG hy);have HE:=lH (aI hx hy);have hE:=fun n=>dI x.kc y.kc (wo.drewN n) (r1.drewN n) (r2.drewN n)
   obtain ⟨q,HQ⟩:∃ q,Hid (decide (x.c.key=y.c.key)=q):=⟨_,lH rfl⟩
   rw [HQ.out] at hE;clear hc hx hy r1 r2
   have a1:IntKind.i64.wrap ((k:Int)-1)=(k:Int)-1:=by rw [IntKind.wrap_i64];omega
   have a2:(0:Int)<=(k:Int)-1:=by omega
   have a3:(k:Int)-1<(l.length:Int):=by omega
   have a4:((k:Int)-1).toNat=m:=by have:=HM.out;omega
   have a5:(0:Int)<=(k:Int):=by omega
   have a6:(k:Int)<(l.length:Int):=by omega
   have a7:¬ ((k:Int)-1<0):=by omega
   have a8:(1:Int)<=(k:Int):=by omega
   go_wp2_with fail
   go_quiet (first | (go_at_call 81;exact Calls.quiet_of_same (hE _)))
   have hb2:Below w.heap.size w (wo.drewN nq):=⟨hb.os,hb.tape,hb.output,hb.size,hb.block⟩
   obtain ⟨W,hW⟩:∃ W,wo.drewN nq=W:=⟨_,rfl⟩
   rw [hW] at hb2 ⊢;clear hW hE
   cases q with
   | true =>
    go_wp2;go_ret;refine ⟨lz (Eq.symm ((sW _).2 ⟨m,x.c.key,?_,?_⟩)),hb2⟩
    ·unfold cd;rw [List.getElem?_map,HE.out.1];rfl
    ·have e:m+1=k:=by have:=HM.out;omega
     unfold cd;rw [e,List.getElem?_map,HE.out.2,of_decide_eq_true HQ.out];rfl
   | false =>
    go_wp2
    go_roundw
    case rel=>exact ⟨k+1,by omega,by omega,by go_num,fun j a b hj h1 h2=>by
     by_cases e:j+1=k
     ·have e2:j=m:=by have:=HM.out;omega
      subst e2;unfold cd at h1 h2;rw [List.getElem?_map,HE.out.1] at h1;rw [e,List.getElem?_map,HE.out.2] at h2
      cases h1
      cases h2
      exact of_decide_eq_false HQ.out
     ·exact HNO.out j a b (by omega) h1 h2,hb2⟩
    case measure=>simp [intOf];omega
  ·have d1:decide (k<l.length)=false:=dF hlt;go_wp2;go_ret;refine ⟨lz (Eq.symm ?_),hb⟩;rw [Bool.eq_false_iff];intro ht;obtain ⟨i,a,h1,h2⟩:=(sW _).1 ht
   have hi:i+1<l.length:=by have:=(lS.1 h2).1;simpa [cd] using this
   exact HNO.out i a a (by omega) h1 h2 rfl
theorem dJ {B1 B2:Nat} {A1 A2:Option Addr} {a b:List UInt8} (c1 c2:Nat) (w:World) (h1:Reads w B1 1 A1 a.length (bl a)) (h2:Reads w B2 1 A2 b.length (bl b)) :
 Calls Tryz.prog 27 #[.slice A1 a.length c1,.slice A2 b.length c2] w fun e w'=>e=.returned (.int .i64 (Lib.compareBytes a b))/\w'=w:=by
 go_enter Tryz.func27,Tryz.ntmps27;go_wp2;rw [run_callFunc_extern Tryz.func46 (by kernel_rfl) (by kernel_rfl) (by kernel_rfl) (e:=Extern.BytealgCompare.compare) (by kernel_rfl),u9 c1 c2 h1 h2];simp only [Result.andThen];rw [Oper.upon_value];go_wp2;go_ret;exact ⟨rfl,rfl⟩
theorem Ax {B:Nat} (x y:CX) (w:World) (h1:Reads w B 1 x.ka x.c.key.length (bl x.c.key)) (h2:Reads w B 1 y.ka y.c.key.length (bl y.c.key)) (hB:B<=w.heap.size) :
 Calls Tryz.prog 91 #[x.val,y.val] w fun e w'=>e=.returned (.int .i64 (Lib.compareBytes x.c.key y.c.key))/\Below w.heap.size w w':=by
 unfold CX.val cellV;have hC:=fun W (hW:Below w.heap.size w W)=>dJ x.kc y.kc W (h1.below (hW.mono hB)) (h2.below (hW.mono hB))
 obtain ⟨r,HR⟩:∃ r,Hid (Lib.compareBytes x.c.key y.c.key=r):=⟨_,lH rfl⟩
 rw [HR.out] at hC ⊢;have HC:=lH hC;clear hC h1 h2;go_enter Tryz.func91,Tryz.ntmps91
 go_wp2_with (go_at_call 27;refine (HC.out _ ?_).mono ?_;exact ((bR _ _).alloc (nR _) _).alloc (by simp) _;rintro e w2 ⟨rfl,rfl⟩)
 go_ret;exact ⟨rfl,((bR _ _).alloc (nR _) _).alloc (by simp) _⟩
theorem pk {B:Nat} {A:Option Addr} {l:List CX} (c:Nat) (w:World) (h:bf w B A l) (hl:l.length<=3000000) (hB:B<=w.heap.size) :
 Calls Tryz.prog 90 #[.slice A l.length c,.func (.func 91) #[] #[]] w fun e w'=>e=.returned (.bool (y8 (cd l)))/\Below w.heap.size w w':=by
 have H:=lH h;clear h
 have a0:IntKind.i64.wrap ((l.length:Int)-1)=(l.length:Int)-1:=by rw [IntKind.wrap_i64];omega
 rcases Nat.eq_zero_or_pos l.length with h0 | h0
 ·have e0:y8 (cd l)=true:=by
   obtain rfl:=List.eq_nil_of_length_eq_zero h0;rfl
  rw [e0,h0];go_enter Tryz.func90,Tryz.ntmps90;go_wp2
  go_loopw [5] (fun i wr=>i=.int .i64 (-1)/\wr=w) (fun i _=>0)
  case atStart=>exact ⟨rfl,rfl⟩
  case round =>
   obtain ⟨rfl,rfl⟩:=hrel;go_wp2;go_ret;exact ⟨rfl,bR _ _⟩
 obtain ⟨t,HT⟩:∃ t,Hid (l.length-1=t):=⟨_,lH rfl⟩
 have a1:(l.length:Int)-1=(t:Int):=by have:=HT.out;omega
 go_enter Tryz.func90,Tryz.ntmps90;go_wp2
 go_loopw [5] (fun i wr=>∃ k:Nat,k<l.length/\i=.int .i64 k/\(∀ j a b,k<j+1->(cd l)[j]?=some a->(cd l)[j+1]?=some b->¬ b<a)/\Below w.heap.size w wr) (fun i _=>(intOf i).toNat)
 case atStart =>
  exact ⟨t,by have:=HT.out;omega,rfl,fun j a b hj h1 h2=>by have:=(lS.1 h2).1;simp [cd] at this;have:=HT.out;omega,bR _ _⟩
 case round =>
  obtain ⟨k,hk,rfl,hno,hb⟩:=hrel;have HNO:=lH hno;clear hno
  obtain ⟨wo,rfl⟩:∃ wo,wo=wr:=⟨wr,rfl⟩
  by_cases hlt:0<k
  ·have d1:decide (0<k)=true:=dT hlt;have d2:decide ((0:Int)<(k:Int))=true:=dT (by omega)
   obtain ⟨m,HM⟩:∃ m,Hid (k-1=m):=⟨_,lH rfl⟩
   have hm:m<l.length:=by have:=HM.out;omega
   obtain ⟨y,hy⟩:∃ y,l[m]?=some y:=⟨_,gE hm⟩
   obtain ⟨x,hx⟩:∃ x,l[k]?=some x:=⟨_,gE hk⟩
   have hc:=(H.out.below (hb.mono hB)).at_ (by omega);obtain ⟨g,o,rfl,hg,hc⟩:=hc
   have kS:(fun W0=>W0.cell? ⟨g,o+k*5,none⟩=some (.slice x.ka x.c.key.length x.kc)/\W0.cell? ⟨g,o+k*5+1,none⟩=some (.int .i64 x.c.size)/\W0.cell? ⟨g,o+k*5+2,none⟩=some (.slice x.va x.c.val.length x.vc)/\W0.cell? ⟨g,o+k*5+3,none⟩=some (.int .u32 (x.c.over:Nat))/\W0.cell? ⟨g,o+k*5+4,none⟩=some (.int .u32 (x.c.kid:Nat))/\W0.cell? ⟨g,o+m*5,none⟩=some (.slice y.ka y.c.key.length y.kc)/\W0.cell? ⟨g,o+m*5+1,none⟩=some (.int .i64 y.c.size)/\W0.cell? ⟨g,o+m*5+2,none⟩=some (.slice y.va y.c.val.length y.vc)/\W0.cell? ⟨g,o+m*5+3,none⟩=some (.int .u32 (y.c.over:Nat))/\W0.cell? ⟨g,o+m*5+4,none⟩=some (.int .u32 (y.c.kid:Nat))) wo.drew:=by
    obtain ⟨c1,c2,c3,c4,c5⟩:=hc k x hx;obtain ⟨c6,c7,c8,c9,c10⟩:=hc m y hy;exact ⟨c1,c2,c3,c4,c5,c6,c7,c8,c9,c10⟩
   have r1:=(H.out.below (hb.mono hB)).key x (mG hx);have r2:=(H.out.below (hb.mono hB)).key y (mG hy);have HE:=lH (aI hx hy);have hE:=Ax x y wo.drew r1.drew r2.drew (by show B<=wo.heap.size;exact nT hB hb.size);have hlv:=i6 x.c.key y.c.key
   obtain ⟨r,HR⟩:∃ r,Hid (Lib.compareBytes x.c.key y.c.key=r):=⟨_,lH rfl⟩
   rw [HR.out] at hE hlv;unfold CX.val cellV at hE;have HLV:=lH hlv;clear hc hx hy r1 r2 hlv
   have a1:IntKind.i64.wrap ((k:Int)-1)=(k:Int)-1:=by rw [IntKind.wrap_i64];omega
   have a2:(0:Int)<=(k:Int)-1:=by omega
   have a3:(k:Int)-1<(l.length:Int):=by omega
   have a4:((k:Int)-1).toNat=m:=by have:=HM.out;omega
   have a5:(0:Int)<=(k:Int):=by omega
   have a6:(k:Int)<(l.length:Int):=by omega
   have a7:¬ ((k:Int)-1<0):=by omega
   have a8:(1:Int)<=(k:Int):=by omega
   go_wp2;refine bB 10 (fun W0=>W0.cell? ⟨g,o+k*5,none⟩=some (.slice x.ka x.c.key.length x.kc)/\W0.cell? ⟨g,o+k*5+1,none⟩=some (.int .i64 x.c.size)/\W0.cell? ⟨g,o+k*5+2,none⟩=some (.slice x.va x.c.val.length x.vc)/\W0.cell? ⟨g,o+k*5+3,none⟩=some (.int .u32 (x.c.over:Nat))/\W0.cell? ⟨g,o+k*5+4,none⟩=some (.int .u32 (x.c.kid:Nat))/\W0.cell? ⟨g,o+m*5,none⟩=some (.slice y.ka y.c.key.length y.kc)/\W0.cell? ⟨g,o+m*5+1,none⟩=some (.int .i64 y.c.size)/\W0.cell? ⟨g,o+m*5+2,none⟩=some (.slice y.va y.c.val.length y.vc)/\W0.cell? ⟨g,o+m*5+3,none⟩=some (.int .u32 (y.c.over:Nat))/\W0.cell? ⟨g,o+m*5+4,none⟩=some (.int .u32 (y.c.kid:Nat))) (kS) (fun hHeld hTl=>?_);refine ae 0 hTl hHeld (fun hTl=>?_)
   try simp only [pT]
   refine ae 1 hTl hHeld (fun hTl=>?_)
   try simp only [pT]
   refine ae 2 hTl hHeld (fun hTl=>?_)
   try simp only [pT]
   refine ae 3 hTl hHeld (fun hTl=>?_)
   try simp only [pT]
   refine ae 4 hTl hHeld (fun hTl=>?_)
   try simp only [pT]
   refine ae 5 hTl hHeld (fun hTl=>?_)
   try simp only [pT]
   refine ae 6 hTl hHeld (fun hTl=>?_)
   try simp only [pT]
   refine ae 7 hTl hHeld (fun hTl=>?_)
   try simp only [pT]
   refine ae 8 hTl hHeld (fun hTl=>?_)
   try simp only [pT]
   refine ae 9 hTl hHeld (fun hTl=>?_)
   try simp only [pT]
   clear hTl;refine sP 10 hE ?_;rintro e w5 ⟨rfl,hb5⟩;refine ⟨_,rfl,(fun h=>absurd h (by decide)),?_⟩
   try simp only [pT]
   refine az 11 (fun K hK=>?_);go_simp;refine hK.out _ _ ?_;clear hK K
   try simp only [pT]
   refine cW ?_ _;have hb2:Below w.heap.size w w5:=hb.drew.trans (hb5.mono hb.drew.size);clear hE;by_cases hr:r<0
   ·have d3:decide (r<0)=true:=dT hr;go_wp2;go_ret;refine ⟨lz (Eq.symm ?_),hb2⟩;rw [Bool.eq_false_iff];intro hu;refine (sX _).1 hu m y.c.key x.c.key ?_ ?_ (HLV.out.1 hr)
    ·unfold cd;rw [List.getElem?_map,HE.out.2];rfl
    ·have e:m+1=k:=by have:=HM.out;omega
     unfold cd;rw [e,List.getElem?_map,HE.out.1];rfl
   ·have d3:decide (r<0)=false:=dF hr;go_wp2
    go_roundw
    case rel=>exact ⟨m,by omega,by congr 1;have:=HM.out;omega,fun j a b hj h1 h2=>by
     by_cases e:j=m
     ·subst e
      have e2:j+1=k:=by have:=HM.out;omega
      unfold cd at h1 h2;rw [List.getElem?_map,HE.out.2] at h1;rw [e2,List.getElem?_map,HE.out.1] at h2
      cases h1
      cases h2
      exact fun hh=>hr (HLV.out.2 hh)
     ·exact HNO.out j a b (by have:=HM.out;omega) h1 h2,hb2⟩
    case measure=>simp [intOf];have:=HM.out;omega
  ·have d1:decide (0<k)=false:=dF hlt;have d2:decide ((0:Int)<(k:Int))=false:=dF (by omega);go_wp2;go_ret;exact ⟨lz (Eq.symm ((sX _).2 fun j a b h1 h2=>HNO.out j a b (by omega) h1 h2)),hb⟩
end
end Go.Proofs.YtgohffhoapkeaaaGreatDoor
