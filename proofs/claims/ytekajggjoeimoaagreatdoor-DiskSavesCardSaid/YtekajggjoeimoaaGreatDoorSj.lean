/- A part of the proof of DiskSaves. No condition of its own. -/
import Derived.Test.YtekajggjoeimoaaGreatDoorSi
import Derived.Test.YtekajggjoeimoaaGreatDoorSg
import Derived.Deep.RegionLaw
set_option linter.unusedVariables false
namespace Go.Proofs.YtekajggjoeimoaaGreatDoor
section
open Go.RowKit
structure RNear (rb:Nat) (w w1:World):Prop where
 fr:Fr (fun k=>k=rb) w w1
 size:w1.heap.size=w.heap.size
 kb:KB w w1
theorem RNear.refl (rb:Nat) (w:World):RNear rb w w:=⟨Fr.refl _ _,rfl,KB.refl _⟩
theorem RNear.trans {rb:Nat} {a b c:World} (h:RNear rb a b) (k:RNear rb b c):RNear rb a c:=⟨h.fr.trans k.fr,k.size.trans h.size,h.kb.trans k.kb⟩
section
variable {X X':Nat→Prop} {w w' w1 w2 w3:World} {rb:Nat} {vd vc vf vw:Value} {V:Nat→Value} {L:Nat→List (ByteArray × Value)} {W:List (PW × Value)} {p:DP}
theorem RefV.near (h:RefV X w rb vd vc vf vw V L W p) (o:Nat) (u:Value):RNear rb w (w.setCell ⟨rb,o,none⟩ u) :=
 ⟨(
  Fr.refl (fun k=>k=rb) w).setCell (p:=⟨rb,o,none⟩) (.inr rfl) u,by simp [World.setCell],fun g cs hg=>(Below.heap_setCell _ _ _ _ (fun e=>by
  have e':g=rb:=e
  subst e';have:=h.blk;unfold Blk at this;rw [this] at hg;cases hg)).trans hg⟩
theorem RNear.fr' (h:RNear rb w w1) (hx:X rb):Fr X w w1:=h.fr.mono (fun k _ e=>by rw [e];exact hx)
theorem RefV.set6 (h:RefV X w rb vd vc vf vw V L W p) (b:Bool):RefV X (w.setCell ⟨rb,6,none⟩ (.bool b)) rb vd vc vf vw V L W {p with armed:=b}:=h.cell (p':={p with armed:=b}) (fun _ h=>h) rfl rfl h.dir h.chs h.fl h.wrs h.wp h.ws
theorem RefV.set7 (h:RefV X w rb vd vc vf vw V L W p) (b:Int):RefV X (w.setCell ⟨rb,7,none⟩ (.int .i64 b)) rb vd vc vf vw V L W {p with after:=b}:=h.cell (p':={p with after:=b}) (fun _ h=>h) rfl rfl h.dir h.chs h.fl h.wrs h.wp h.ws
theorem RefV.set8 (h:RefV X w rb vd vc vf vw V L W p) (b:Int):RefV X (w.setCell ⟨rb,8,none⟩ (.int .i64 b)) rb vd vc vf vw V L W {p with code:=b}:=h.cell (p':={p with code:=b}) (fun _ h=>h) rfl rfl h.dir h.chs h.fl h.wrs h.wp h.ws
set_option maxHeartbeats 1000000 in
set_option maxRecDepth 100000 in
theorem RFails_any (h:RefV X w rb vd vc vf vw V L W p) (ha:p.after≤9223372036854775807) :
 ∃ w1,(Calls Tryz.prog 85 #[.pointer (some ⟨rb,0,none⟩)] w fun e w'=>e=.returned (.int .i64 (failP p).1)∧w'=w1)∧RefV X w1 rb vd vc vf vw V L W (failP p).2∧RNear rb w w1:=by
 have hb:=h.blk
 have f6:=hb.frozen 6
 have f7:=hb.frozen 7
 unfold failP
 cases e:p.armed with
 | false =>
  rw [e] at hb
  have c6:w.cell? ⟨rb,6,none⟩=some (.bool false):=hb.cell 6
  rw [if_pos rfl]
  refine ⟨w,?_,h,RNear.refl _ _⟩
  go_enter Tryz.func85,Tryz.ntmps85
  go_wp2
  go_ret
  exact ⟨rfl,rfl⟩
 | true =>
  rw [e] at hb
  have c6:w.cell? ⟨rb,6,none⟩=some (.bool true):=hb.cell 6
  have c7:w.cell? ⟨rb,7,none⟩=some (.int .i64 p.after):=hb.cell 7
  rw [if_neg (by decide)]
  by_cases h0:0<p.after
  ·rw [if_pos h0]
   have d1:decide (0<p.after)=true:=by simpa using h0
   have e1:wrap64 (p.after-1)=p.after-1:=by simp only [wrap64];omega
   refine ⟨w.setCell ⟨rb,7,none⟩ (.int .i64 (p.after-1)),?_,?_,h.near _ _⟩
   ·go_enter Tryz.func85,Tryz.ntmps85
    go_wp2
    go_ret
    exact ⟨rfl,rfl⟩
   ·have:=h.set7 (p.after-1)
    rw [e] at this;exact this
  ·rw [if_neg h0]
   have d1:decide (0<p.after)=false:=by simpa using h0
   have hs:=hb.set_ 6 (.bool false)
   have c8:(w.setCell ⟨rb,6,none⟩ (.bool false)).cell? ⟨rb,8,none⟩=some (.int .i64 p.code):=hs.cell 8
   refine ⟨w.setCell ⟨rb,6,none⟩ (.bool false),?_,h.set6 false,h.near _ _⟩
   go_enter Tryz.func85,Tryz.ntmps85
   go_wp2
   go_ret
   exact ⟨rfl,rfl⟩
set_option maxHeartbeats 1000000 in
set_option maxRecDepth 100000 in
theorem RAt_go (h:RefV X w rb vd vc vf vw V L W p) {i:Nat} (hi:i<p.files.length) (hn:p.files.length≤1000000) :
 Calls Tryz.prog 64 #[.pointer (some ⟨rb,0,none⟩),.int .i64 i] w fun e w'=>e=.returned (.int .i64 i)∧w=w':=by
 obtain ⟨A,c,rfl⟩:=h.fl.form
 have c3:w.cell? ⟨rb,3,none⟩=some (.slice A p.files.length c):=h.blk.cell 3
 obtain ⟨g,c',cur,hv,hXg,hg,hsz,hcur⟩:=h.fl.row (by omega)
 obtain ⟨rfl,_,rfl⟩:A=some ⟨g,0,none⟩∧p.files.length=p.files.length∧c=c':=by simpa using hv
 go_enter Tryz.func64,Tryz.ntmps64
 go_wp2
 go_loop [5] (fun j=>∃ k:Nat,k≤i∧j=.int .i64 k) (fun j=>p.files.length-(intOf j).toNat)
 case atStart=>exact ⟨0,Nat.zero_le _,rfl⟩
 case round =>
  obtain ⟨k,hk,rfl⟩:=hrel
  have hkl:k<p.files.length:=by omega
  have d1:decide (k<p.files.length)=true:=by simpa using hkl
  have e0:w.cell? ⟨g,k*2,none⟩=some (.int .i64 k):=by
   rw [hg.cell]
   exact hcur _ _ ((fl_at hkl 0 (by omega)).trans rfl)
  by_cases he:k=i
  ·subst he
   have d2:((k:Int)==(k:Int))=true:=by simp
   go_wp2
   go_ret
   exact ⟨rfl,rfl⟩
  ·have d2:((k:Int)==(i:Int))=false:=by simp;omega
   go_wp2
   go_round
   case rel=>exact ⟨k+1,by omega,by go_num⟩
   case measure=>simp [intOf];omega
set_option maxHeartbeats 1000000 in
set_option maxRecDepth 100000 in
theorem RPending_any (h:RefV X w rb vd vc vf vw V L W p) :
 Calls Tryz.prog 48 #[.pointer (some ⟨rb,0,none⟩)] w fun e w'=>e=.returned (.tuple #[.int .i64 p.wrs.length,.int .i64 p.chs.length])∧Below w.heap.size w w':=by
 obtain ⟨A3,c3,rfl⟩:=h.chs.form
 obtain ⟨A4,c4,rfl⟩:=h.wrs.form
 have e3:w.cell? ⟨rb,2,none⟩=some (.slice A3 p.chs.length c3):=h.blk.cell 2
 have e4:w.cell? ⟨rb,4,none⟩=some (.slice A4 p.wrs.length c4):=h.blk.cell 4
 go_enter Tryz.func48,Tryz.ntmps48
 go_wp2
 go_quiet (fail)
 go_wp2
 go_ret2
 exact ⟨rfl,⟨rfl,rfl,rfl,Nat.le_refl _,fun _ _=>rfl⟩⟩
theorem RefV.arm (h:RefV X w rb vd vc vf vw V L W p) (b:Bool) (after code:Int):RefV X (((w.setCell ⟨rb,6,none⟩ (.bool b)).setCell ⟨rb,7,none⟩ (.int .i64 after)).setCell ⟨rb,8,none⟩ (.int .i64 code)) rb vd vc vf vw V L W {p with armed:=b,after:=after,code:=code}∧RNear rb w (((w.setCell ⟨rb,6,none⟩ (.bool b)).setCell ⟨rb,7,none⟩ (.int .i64 after)).setCell ⟨rb,8,none⟩ (.int .i64 code)) :=
 ⟨((h.set6 b).set7 after).set8 code,((h.near 6 (.bool b)).trans ((h.set6 b).near 7 (.int .i64 after))).trans (((h.set6 b).set7 after).near 8 (.int .i64 code))⟩
set_option maxHeartbeats 1000000 in
set_option maxRecDepth 100000 in
theorem RArm_go (h:RefV X w rb vd vc vf vw V L W p) (after code:Int) :
 Calls Tryz.prog 43 #[.pointer (some ⟨rb,0,none⟩),.int .i64 after,.int .i64 code] w fun e w'=>e=.returned (.tuple #[])∧RefV X w' rb vd vc vf vw V L W (armP p after code)∧RNear rb w w':=by
 have hb:=h.blk
 have r6:w.cell? ⟨rb,6,none⟩=some (.bool p.armed):=hb.cell 6
 have r7:w.cell? ⟨rb,7,none⟩=some (.int .i64 p.after):=hb.cell 7
 have r8:w.cell? ⟨rb,8,none⟩=some (.int .i64 p.code):=hb.cell 8
 have f6:=hb.frozen 6
 have f7:=hb.frozen 7
 have f8:=hb.frozen 8
 have HR:=h.arm (armedP after code) after code
 unfold armP
 unfold armedP at HR ⊢
 cases d0:decide (0≤after) with
 | false =>
  rw [d0] at HR
  have HH:=Lib.hid HR
  clear HR
  go_enter Tryz.func43,Tryz.ntmps43
  go_wp2
  go_end0
  exact ⟨rfl,HH.out⟩
 | true =>
  cases d1:(code==41) with
  | true =>
   rw [d0,d1] at HR
   have HH:=Lib.hid HR
   clear HR
   go_enter Tryz.func43,Tryz.ntmps43
   go_wp2
   go_end0
   exact ⟨rfl,HH.out⟩
  | false =>
   cases d2:(code==42) with
   | true =>
    rw [d0,d1,d2] at HR
    have HH:=Lib.hid HR
    clear HR
    go_enter Tryz.func43,Tryz.ntmps43
    go_wp2
    go_end0
    exact ⟨rfl,HH.out⟩
   | false =>
    rw [d0,d1,d2] at HR
    have HH:=Lib.hid HR
    clear HR
    go_enter Tryz.func43,Tryz.ntmps43
    go_wp2
    go_end0
    exact ⟨rfl,HH.out⟩
end
end
section
open Go.RowKit
set_option maxHeartbeats 2000000 in
set_option maxRecDepth 100000 in
theorem RName_any (s:ByteArray) (hs:s.size≤1000000) (w:World):Calls Tryz.prog 68 #[.string s] w fun e w'=>e=.returned (.bool (nameOK s))∧w=w':=by
 by_cases h1:s.size<1
 ·have hN:nameOK s=false:=by unfold nameOK;rw [show decide (1≤s.size)=false by simpa using h1];rfl
  have d1:decide ((s.size:Int)<1)=true:=by simp;omega
  rw [hN]
  clear hN
  go_enter Tryz.func68,Tryz.ntmps68
  go_wp2
  go_ret
  exact ⟨rfl,rfl⟩
 ·by_cases h2:16<s.size
  ·have hN:nameOK s=false:=by unfold nameOK;rw [show decide (s.size≤16)=false by simpa using h2,Bool.and_false];rfl
   have d1:decide ((s.size:Int)<1)=false:=by simp;omega
   have d2:decide ((16:Int)<s.size)=true:=by simp;omega
   rw [hN]
   clear hN
   go_enter Tryz.func68,Tryz.ntmps68
   go_wp2
   go_ret
   exact ⟨rfl,rfl⟩
  ·have hN:nameOK s=s.data.toList.all okC:=by unfold nameOK;rw [show decide (s.size≤16)=true by simpa using h2,show decide (1≤s.size)=true by simp;omega];rfl
   have d1:decide ((s.size:Int)<1)=false:=by simp;omega
   have d2:decide ((16:Int)<s.size)=false:=by simp;omega
   rw [hN]
   clear hN
   obtain ⟨b,hb⟩:∃ b,s.data.toList.all okC=b:=⟨_,rfl⟩
   rw [hb]
   have HBB:=Lib.hid hb
   clear hb
   go_enter Tryz.func68,Tryz.ntmps68
   go_wp2
   go_loopw [3] (fun i wr=>NmRel s w i wr) (fun i _=>s.size-(intOf i).toNat)
   case atStart=>exact ⟨rfl,0,Nat.zero_le _,rfl,fun j c hj=>by omega⟩
   case round =>
    obtain ⟨rfl,k,hk,rfl,hok⟩:=hrel
    by_cases hlt:k<s.size
    ·have d3:decide (k<s.size)=true:=by simpa using hlt
     obtain ⟨c,hc⟩:∃ c,s.data.toList[k]?=some c:=⟨_,List.getElem?_eq_getElem (by simpa using hlt)⟩
     have i0:(0:Int)≤(k:Int):=by omega
     have i1:(k:Int)<(s.size:Int):=by omega
     have HOK:=Lib.hid hok
     clear hok
     have hg:s[k]'hlt=c:=by
      have:=List.getElem?_eq_some_iff.1 hc
      obtain ⟨h1,h2⟩:=this
      rw [←h2];rfl
     have hsp:=okC_split c
     have HC:=Lib.hid hc
     clear hc
     obtain ⟨m,hm⟩:∃ m,c.toNat=m:=⟨_,rfl⟩
     have hgm:(s[k]'hlt).toNat=m:=by rw [hg,hm]
     rw [hm] at hsp
     have HSP:=Lib.hid hsp
     clear hsp hg hm
     have hbad:okC c=false→b=false:=fun h=>by
      rw [←HBB.out]
      cases e:s.data.toList.all okC with
      | false=>rfl
      | true =>
       rw [List.all_eq_true] at e
       rw [e c (List.mem_of_getElem? HC.out)] at h
       cases h
     have HB:=Lib.hid hbad
     clear hbad
     have hgood:okC c=true→∀ j d,j<k+1→s.data.toList[j]?=some d→okC d=true:=fun h j d hj hd=>by
      by_cases e:j=k
      ·subst e;rw [HC.out] at hd;cases hd;exact h
      ·exact HOK.out j d (by omega) hd
     have HG:=Lib.hid hgood
     clear hgood
     cases e46:((m:Int)==46) with
     | true =>
      have p46:(m:Int)=46:=by simpa using e46
      go_wp2
      all_goals first
       | (exfalso;rename_i hh;rcases hh with hh | hh <;> simp at hh <;> omega)
       | (exfalso;rename_i hh;simp at hh;omega)
       | (go_ret;exact ⟨by rw [HB.out (by rw [HSP.out];simp;omega)];rfl,rfl⟩)
       | (
        go_roundw
        case rel=>exact ⟨rfl,k+1,by omega,by go_num,HG.out (by rw [HSP.out];simp;omega)⟩
        case measure=>simp [intOf];omega)
     | false =>
      have p46:(m:Int)≠46:=by simpa using e46
      go_wp2
      all_goals first
       | (exfalso;rename_i hh;rcases hh with hh | hh <;> simp at hh <;> omega)
       | (exfalso;rename_i hh;simp at hh;omega)
       | (go_ret;exact ⟨by rw [HB.out (by rw [HSP.out];simp;omega)];rfl,rfl⟩)
       | (
        go_roundw
        case rel=>exact ⟨rfl,k+1,by omega,by go_num,HG.out (by rw [HSP.out];simp;omega)⟩
        case measure=>simp [intOf];omega)
    ·have d3:decide (k<s.size)=false:=by simpa using hlt
     obtain rfl:k=s.size:=by omega
     have hall:s.data.toList.all okC=true:=by
      rw [List.all_eq_true]
      intro c hc
      obtain ⟨j,hj,he⟩:=List.getElem_of_mem hc
      exact hok j c (by simpa using hj) (by rw [List.getElem?_eq_getElem hj,he])
     obtain rfl:b=true:=by rw [←HBB.out];exact hall
     clear hall hok
     go_wp2
     go_ret
     exact ⟨rfl,rfl⟩
end
section
open Go.RowKit
theorem tl_eq {a b:ByteArray} (h:a=b):(a.toList==b.toList)=true:=by subst h;simp
theorem tl_ne {a b:ByteArray} (h:a≠b):(a.toList==b.toList)=false:=by
 cases e:(a.toList==b.toList) with
 | false=>rfl
 | true =>
  have h2:a.toList=b.toList:=by simpa using e
  exact absurd (Go.WideShapes.bytes_inj (by rw [←ByteArray.toList_eq,←ByteArray.toList_eq];exact h2)) h
structure SlT (P:Program) (t e:TypeId) (size bytes:Nat):Prop where
 under:P.underlying t=some (.slice e)
 info:∃ i z,P.info? e=some i∧i.zero=some z∧i.size=size∧i.bytes=bytes∧z.cells.size=size
 pos:0<size
 few:bytes≤1000
theorem SlT.of {P:Program} {t e:TypeId} {size bytes:Nat} {z:Value} (hu:P.underlying t=some (.slice e)) (hi:(P.info? e).map (fun i=>(i.zero,i.size,i.bytes))=some (some z,size,bytes)) (hz:z.cells.size=size) (h0:0<size) (hf:bytes≤1000):SlT P t e size bytes:=by
 cases h:P.info? e with
 | none=>rw [h] at hi;cases hi
 | some i =>
  rw [h] at hi
  simp only [Option.map_some,Option.some.injEq,Prod.mk.injEq] at hi
  exact ⟨hu,⟨i,z,h,hi.1,hi.2.1,hi.2.2,hz⟩,h0,hf⟩
theorem TEn:SlT Tryz.prog 67 137 2 24:=SlT.of Tryz.underlying67 (z:=.agg #[.string ⟨#[]⟩,.int .i64 0]) (by kernel_rfl) rfl (by omega) (by omega)
theorem TCh:SlT Tryz.prog 68 162 4 48:=SlT.of Tryz.underlying68 (z:=.agg #[.int .i64 0,.string ⟨#[]⟩,.string ⟨#[]⟩,.int .i64 0]) (by kernel_rfl) rfl (by omega) (by omega)
theorem TFl:SlT Tryz.prog 69 111 2 32:=SlT.of Tryz.underlying69 (z:=.agg #[.int .i64 0,.slice none 0 0]) (by kernel_rfl) rfl (by omega) (by omega)
theorem TWr:SlT Tryz.prog 70 165 3 40:=SlT.of Tryz.underlying70 (z:=.agg #[.int .i64 0,.int .i64 0,.slice none 0 0]) (by kernel_rfl) rfl (by omega) (by omega)
theorem TSS:SlT Tryz.prog 109 36 1 24:=SlT.of Tryz.underlying109 (z:=.slice none 0 0) (by kernel_rfl) rfl (by omega) (by omega)
theorem TBy:SlT Tryz.prog 36 5 1 1:=SlT.of Tryz.underlying36 (z:=.int .u8 0) (by kernel_rfl) rfl (by omega) (by omega)
theorem TSt:SlT Tryz.prog 90 9 1 16:=SlT.of Tryz.underlying90 (z:=.string ⟨#[]⟩) (by kernel_rfl) rfl (by omega) (by omega)
theorem own_le {w:World} {B B' e size n:Nat} {v:Value} {xs:List Value} (h:w.ownsRow B e size v n xs) (hB:B'≤B):w.ownsRow B' e size v n xs:=⟨h.1,h.2.imp id fun ⟨g,cap,cur,e1,e2,r⟩=>⟨g,cap,cur,e1,Nat.le_trans hB e2,r⟩⟩
theorem own_formS {w:World} {B e size n:Nat} {v:Value} {xs:List Value} (h:w.ownsRow B e size v n xs):∃ A c,v=.slice A n c:=own_formN h
section
variable {P:Program} {w:World}
theorem step_push {t e:TypeId} {size bytes:Nat} (T:SlT P t e size bytes) {ops:Array Oper} {o:Oper} {a:Act} {K:Act→World→Prop} {Q:Exit→Act→World→Prop} {E:Prop} (hgd:o.guard=none) {s x:Operand}
 (ho:o.op=.call {callee:=.builtin .append,args:=#[s,x],argTypes:=#[t,t]})
 (base:Nat) {As:Option Addr} {n cs:Nat} {xs:List Value} (hs:a.eval s=.slice As n cs) (hown:w.ownsRow base e size (.slice As n cs) n xs)
 {B:Nat} {A:Option Addr} {m c:Nat} {news:List Value} (hx:a.eval x=.slice A m c) (hr:Reads w B size A m news) (h1:∀ u∈news,u.oneCell'=true)
 (hn:n+m≤1000000) (hbase:base≤w.heap.size) {k:Nat} (hk:n+m=k) {ys:List Value} (hy:xs++news=ys)
 (h:∀ A' c' w',w'.ownsRow base e size (.slice A' k c') k ys→w.grownBy w' (.slice As n cs:Value).ownBlock→((.slice A' k c':Value).ownBlock=(.slice As n cs:Value).ownBlock∨(.slice A' k c':Value).ownBlock=some w.heap.size)→K (a.put o.dst (.slice A' k c')) w') :
 if Region.wanted o (yielded ops a.tmps)=true then Oper.wp P o a w K Q else E:=by
 obtain ⟨i,z,i1,i2,i3,i4,i5⟩:=T.info
 subst hk hy
 refine step_append_any w hgd s x t ho base e i z size bytes T.under i1 i2 i3 i4 i5 T.pos _ n xs hs hown B A m c news hx hr h1 (by simp only [maxLen];omega) (Nat.le_trans (Nat.mul_le_mul hn T.few) (by omega)) hbase (fun v' w' a1 a2 a3=>?_)
 obtain ⟨A',c',rfl⟩:=own_formN a1
 exact h A' c' w' a1 a2 a3
theorem list_push {t e:TypeId} {size bytes:Nat} (T:SlT P t e size bytes) {ops:Array Oper} {rest:List Oper} {o:Oper} {a:Act} {Q:Exit→Act→World→Prop} (hgd:o.guard=none) {s x:Operand}
 (ho:o.op=.call {callee:=.builtin .append,args:=#[s,x],argTypes:=#[t,t]})
 (base:Nat) {As:Option Addr} {n cs:Nat} {xs:List Value} (hs:a.eval s=.slice As n cs) (hown:w.ownsRow base e size (.slice As n cs) n xs)
 {B:Nat} {A:Option Addr} {m c:Nat} {news:List Value} (hx:a.eval x=.slice A m c) (hr:Reads w B size A m news) (h1:∀ u∈news,u.oneCell'=true)
 (hn:n+m≤1000000) (hbase:base≤w.heap.size) {k:Nat} (hk:n+m=k) {ys:List Value} (hy:xs++news=ys)
 (h:∀ A' c' w',w'.ownsRow base e size (.slice A' k c') k ys→w.grownBy w' (.slice As n cs:Value).ownBlock→((.slice A' k c':Value).ownBlock=(.slice As n cs:Value).ownBlock∨(.slice A' k c':Value).ownBlock=some w.heap.size)→wpList P ops Q rest (a.put o.dst (.slice A' k c')) w'):wpList P ops Q (o::rest) a w:=by
 obtain ⟨i,z,i1,i2,i3,i4,i5⟩:=T.info
 subst hk hy
 refine wpList_append_any w hgd s x t ho base e i z size bytes T.under i1 i2 i3 i4 i5 T.pos _ n xs hs hown B A m c news hx hr h1 (by simp only [maxLen];omega) (Nat.le_trans (Nat.mul_le_mul hn T.few) (by omega)) hbase (fun v' w' a1 a2 a3=>?_)
 obtain ⟨A',c',rfl⟩:=own_formN a1
 exact h A' c' w' a1 a2 a3
theorem own_emptyH (W:World) (e size:Nat) {H base:Nat} (hH:W.heap.size=H) (hb:base≤H):(W.alloc (.cells #[] e)).ownsRow base e size (.slice (some ⟨H,0,none⟩) 0 0) 0 []:=by
 subst hH
 exact ⟨by simp,.inr ⟨_,0,#[],rfl,hb,heap_alloc_new W _,Nat.le_refl _,by simp [maxLen],by simp,by simp⟩⟩
theorem reads_blk {g:Nat} {t:TypeId} {cs:Array Value} {size:Nat} (h:Blk w g t cs) (hs:cs.size=size):Reads w w.heap.size size (some ⟨g,0,none⟩) 1 cs.toList :=
 ⟨by simp [hs],fun _=>⟨_,rfl,h.lt,fun j x hx=>by
  have e:(⟨g,0,none⟩:Addr).add j=⟨g,j,none⟩:=by unfold Addr.add;split <;> simp_all
  rw [e,h.cell]
  simpa using hx⟩⟩
def KS (w:World) (g:Nat) (t:TypeId) (cs:Array Value) (W:World):Prop:=Blk W g t cs∧Below w.heap.size w W
section
variable {w W W':World} {g:Nat} {t:TypeId} {cs:Array Value}
theorem KS.drew (h:KS w g t cs W):KS w g t cs W.drew:=⟨h.1,h.2.drew⟩
theorem KS.drewN (h:KS w g t cs W) (n:Nat):KS w g t cs (W.drewN n):=⟨h.1,⟨h.2.os,h.2.tape,h.2.output,h.2.size,h.2.block⟩⟩
theorem KS.alloc (h:KS w g t cs W) (o:Obj):KS w g t cs (W.alloc o):=⟨h.1.alloc o,h.2.alloc h.2.size o⟩
theorem KS.grown {row:Option Nat} (h:KS w g t cs W) (hg:W.grownBy W' row) (hr:∀ k,row=some k→w.heap.size≤k∧k≠g):KS w g t cs W' :=
 ⟨(hg.block g h.1.lt (fun e=>(hr g e.symm).2 rfl)).trans h.1,h.2.grown hg h.2.size (fun k e=>(hr k e).1)⟩
theorem KS.new (w:World) (t:TypeId) (cs:Array Value):KS w w.heap.size t cs (w.alloc (.cells cs t)):=⟨Blk.new w t cs,(Below.refl _ w).alloc (Nat.le_refl _) _⟩
theorem KS.lt (h:KS w g t cs W):g<W.heap.size:=h.1.lt
end
theorem blk_newH (W:World) (t:TypeId) (cs:Array Value) {H:Nat} (hH:W.heap.size=H):Blk (W.alloc (.cells cs t)) H t cs:=by subst hH;exact Blk.new W t cs
theorem blk_drew {W:World} {g:Nat} {t:TypeId} {cs:Array Value} (h:Blk W g t cs):Blk W.drew g t cs:=h
theorem blk_alloc {W:World} {g:Nat} {t:TypeId} {cs:Array Value} {o:Obj} (h:Blk W g t cs):Blk (W.alloc o) g t cs:=h.alloc o
theorem blk_grown {W W':World} {g:Nat} {t:TypeId} {cs:Array Value} {row:Option Nat} (h:Blk W g t cs) (hg:W.grownBy W' row) (hr:row≠some g):Blk W' g t cs:=(hg.block g h.lt (fun e=>hr e.symm)).trans h
end
end
section
open Go.RowKit
structure Dd where
 kind:Int
 a:ByteArray
 b:ByteArray
 n:Int
 p:ByteArray
 keep:List Int
def doP (p:DP) (x:Dd):Int × ByteArray × DP :=
 if x.kind=0 then ((createP p x.a).1,ByteArray.empty,(createP p x.a).2)
 else if x.kind=1 then ((removeP p x.a).1,ByteArray.empty,(removeP p x.a).2)
 else if x.kind=2 then ((renameP p x.a x.b).1,ByteArray.empty,(renameP p x.a x.b).2)
 else if x.kind=3 then ((growP p x.a x.n).1,ByteArray.empty,(growP p x.a x.n).2)
 else if x.kind=4 then ((writeP p x.a x.n x.p).1,ByteArray.empty,(writeP p x.a x.n x.p).2)
 else if x.kind=5 then readP p x.a x.n
 else if x.kind=6 then ((syncP p x.a).1,ByteArray.empty,(syncP p x.a).2)
 else if x.kind=7 then ((syncdirP p).1,ByteArray.empty,(syncdirP p).2)
 else if x.kind=8 then (0,ByteArray.empty,armP p x.n x.p.size)
 else if x.kind=9 then (0,ByteArray.empty,crashP p x.n x.keep)
 else (0,ByteArray.empty,p)
def ArmOK (p:DP):Prop:=p.armed=true→p.code∈Da.codes
theorem failP_code {p:DP} (h:ArmOK p):(failP p).1=0∨(failP p).1∈Da.codes:=by
 unfold failP
 cases e:p.armed with
 | false=>exact .inl rfl
 | true =>
  rw [if_neg (by decide)]
  split
  ·exact .inl rfl
  ·exact .inr (h e)
theorem createP_code {p:DP} (h:ArmOK p) (nm:ByteArray):(createP p nm).1=0∨(createP p nm).1∈Da.codes:=by
 have:=failP_code h
 simp only [createP]
 split
 ·exact this
 ·split
  ·exact .inr (by simp [Da.codes])
  ·split
   ·exact .inr (by simp [Da.codes])
   ·split
    ·exact .inr (by simp [Da.codes])
    ·exact .inl rfl
theorem removeP_code {p:DP} (h:ArmOK p) (nm:ByteArray):(removeP p nm).1=0∨(removeP p nm).1∈Da.codes:=by
 have:=failP_code h
 simp only [removeP]
 split
 ·exact this
 ·split
  ·exact .inr (by simp [Da.codes])
  ·exact .inl rfl
theorem renameP_code {p:DP} (h:ArmOK p) (nm to:ByteArray):(renameP p nm to).1=0∨(renameP p nm to).1∈Da.codes:=by
 have:=failP_code h
 simp only [renameP]
 split
 ·exact this
 ·split
  ·exact .inr (by simp [Da.codes])
  ·split
   ·exact .inr (by simp [Da.codes])
   ·exact .inl rfl
theorem growP_code {p:DP} (h:ArmOK p) (nm:ByteArray) (n:Int):(growP p nm n).1=0∨(growP p nm n).1∈Da.codes:=by
 have:=failP_code h
 simp only [growP]
 split
 ·exact this
 ·split
  ·exact .inr (by simp [Da.codes])
  ·split
   ·exact .inr (by simp [Da.codes])
   ·split
    ·exact .inr (by simp [Da.codes])
    ·exact .inl rfl
theorem writeP_code {p:DP} (h:ArmOK p) (nm:ByteArray) (n:Int) (s:ByteArray):(writeP p nm n s).1=0∨(writeP p nm n s).1∈Da.codes:=by
 have:=failP_code h
 simp only [writeP]
 split
 ·exact this
 ·split
  ·exact .inr (by simp [Da.codes])
  ·split
   ·exact .inr (by simp [Da.codes])
   ·split
    ·exact .inr (by simp [Da.codes])
    ·exact .inl rfl
theorem readP_code {p:DP} (h:ArmOK p) (nm:ByteArray) (n:Int):(readP p nm n).1=0∨(readP p nm n).1∈Da.codes:=by
 have:=failP_code h
 simp only [readP]
 split
 ·exact this
 ·unfold lookP
  split
  ·exact .inr (by simp [Da.codes])
  ·split
   ·exact .inr (by simp [Da.codes])
   ·exact .inl rfl
theorem syncP_code {p:DP} (h:ArmOK p) (nm:ByteArray):(syncP p nm).1=0∨(syncP p nm).1∈Da.codes:=by
 have:=failP_code h
 simp only [syncP]
 split
 ·exact this
 ·split
  ·exact .inr (by simp [Da.codes])
  ·exact .inl rfl
theorem syncdirP_code {p:DP} (h:ArmOK p):(syncdirP p).1=0∨(syncdirP p).1∈Da.codes:=by
 have:=failP_code h
 simp only [syncdirP]
 split
 ·exact this
 ·exact .inl rfl
theorem ArmOK.fail {p:DP} (h:ArmOK p):ArmOK (failP p).2:=by
 unfold failP
 split
 ·exact h
 ·split
  ·exact h
  ·intro e;cases e
theorem ArmOK.of {p q:DP} (h:ArmOK p) (e1:q.armed=p.armed) (e2:q.code=p.code):ArmOK q:=fun e=>by rw [e2];exact h (e1.symm.trans e)
theorem ArmOK.doP {p:DP} (h:ArmOK p) (x:Dd):ArmOK (Go.Proofs.YtekajggjoeimoaaGreatDoor.doP p x).2.2:=by
 have hf:=h.fail
 unfold Go.Proofs.YtekajggjoeimoaaGreatDoor.doP
 split
 ·simp only [createP];split;exact hf;split;exact hf;split;exact hf;split;exact hf;exact hf.of rfl rfl
 ·split
  ·simp only [removeP];split;exact hf;split;exact hf;exact hf.of rfl rfl
  ·split
   ·simp only [renameP];split;exact hf;split;exact hf;split;exact hf;exact hf.of rfl rfl
   ·split
    ·simp only [growP];split;exact hf;split;exact hf;split;exact hf;split;exact hf;exact hf.of rfl rfl
    ·split
     ·simp only [writeP];split;exact hf;split;exact hf;split;exact hf;split;exact hf;exact hf.of rfl rfl
     ·split
      ·simp only [readP];split;exact hf;exact hf
      ·split
       ·simp only [syncP];split;exact hf;split;exact hf;exact hf.of rfl rfl
       ·split
        ·simp only [syncdirP];split;exact hf;exact hf.of rfl rfl
        ·split
         ·intro e
          have e':armedP x.n x.p.size=true:=e
          unfold armedP at e'
          simp only [Bool.and_eq_true,Bool.or_eq_true,beq_iff_eq] at e'
          show (x.p.size:Int)∈Da.codes
          rcases e'.2 with e2 | e2 <;> rw [e2] <;> decide
         ·split
          ·intro e;cases e
          ·exact h
def FrF (X:Nat→Prop) (w w':World):Prop:=Fr (fun k=>X k∨FaultX w k) w w'
section
variable {X X':Nat→Prop} {w w' w1 w2 w3:World} {db M1 M2:Nat} {v3 v4:Value} {q q':DQ} {fs:List Nat} {V:Nat→Bool→Value} {C:Nat→Bool→List ByteArray} {fb:Nat→Nat} {p p':DP}
theorem FrF.of_fr (h:Fr X w w'):FrF X w w':=h.mono fun k _ hk=>.inl hk
theorem FrF.of_fault {B:Nat} (h:Fr (FaultN B w) w w'):FrF X w w':=h.mono fun k _ hk=>.inr hk.2
theorem FrF.of_below (h:Below w.heap.size w w'):FrF X w w':=FrF.of_fr (Fr.of_below h)
theorem FrF.keepc (h:FrF X w w') {k:Nat} {cs:Array Value} {t:TypeId} (hk:w.heap[k]?=some (.cells cs t (0,0))) (hx:¬ X k) (ht:t≠77):w'.heap[k]?=some (.cells cs t (0,0)):=h.heap hk (by
 rintro (h1 | ⟨_,_,_,h1⟩)
 ·exact hx h1
 ·rw [hk] at h1;cases h1;exact ht rfl)
theorem FrF.keepm (h:FrF X w w') {k:Nat} {es:Array MapEntry} {ck:Nat} (hk:w.heap[k]?=some (.map es ck)) (hx:¬ X k):w'.heap[k]?=some (.map es ck):=h.heap hk (by
 rintro (h1 | ⟨_,_,_,h1⟩)
 ·exact hx h1
 ·rw [hk] at h1;cases h1)
theorem PD.off (h:PD X w db p) {Y:Nat→Prop} (hf:FrF Y w w') (hY:∀ k,X k→¬ Y k):PD X w' db p:=by
 obtain ⟨M1,M2,v3,v4,q,fs,V,C,fb,hD,hF,ht⟩:=h
 refine ⟨M1,M2,v3,v4,q,fs,V,C,fb,hD.keep (fun _ h=>h) (fun k cs t ht hx hk=>hf.keepc hk (hY k hx) (by rcases ht with e | e | e <;> rw [e] <;> decide)) (fun k es ck hx hk=>hf.keepm hk (hY k hx)),hF.keep (fun _ h=>h) (fun k cs t ht hx hk=>hf.keepc hk (hY k hx) (by rcases ht with e | e <;> rw [e] <;> decide)),ht⟩
theorem PD.more (h:PD X w db p) (hX:∀ k,X k→X' k):PD X' w db p:=by
 obtain ⟨M1,M2,v3,v4,q,fs,V,C,fb,hD,hF,ht⟩:=h
 exact ⟨M1,M2,v3,v4,q,fs,V,C,fb,hD.keep hX Same.refl (fun _ _ _ _ h=>h),hF.keep hX Same.refl,ht⟩
theorem PD.fault {B:Nat} (h:PD X w db p) (hf:Fr (FaultN B w) w w'):PD X w' db p:=h.off (Y:=fun _=>False) (hf.mono fun k _ hk=>.inr hk.2) (fun k _ h=>h)
theorem GlobAt.off (hg:GlobAt w) (hf:FrF X w w') (h0:¬ X 0):GlobAt w':=by
 have hg':w.cell? ⟨0,0,none⟩=some (.iface 184 (.agg #[.pointer (some ⟨1,27,none⟩)])):=hg
 have hl:=World.block_lt_of_cell? w _ hg'
 have hb:=hf.block 0 hl (by
  rintro (h1 | ⟨a,b,c,h1⟩)
  ·exact h0 h1
  ·have hbl:Blk w 0 77 #[.string a,.string b,c]:=h1
   have h2:=hbl.cell 0
   rw [hg'] at h2
   simp at h2)
 show w'.cell? ⟨0,0,none⟩=_
 rw [←hg']
 exact World.cell?_of_block (w:=w) hb
end
end
section
open Go.RowKit
def Dd.val (x:Dd) (Ap:Option Addr) (cp:Nat) (Ak:Option Addr) (ck:Nat):Value:=.agg #[.int .i64 x.kind,.string x.a,.string x.b,.int .i64 x.n,.slice Ap x.p.size cp,.slice Ak x.keep.length ck]
def Dd.arr (x:Dd) (Ap:Option Addr) (cp:Nat) (Ak:Option Addr) (ck:Nat):Array Value:=#[.int .i64 x.kind,.string x.a,.string x.b,.int .i64 x.n,.slice Ap x.p.size cp,.slice Ak x.keep.length ck]
def bvals (s:ByteArray):List Value:=s.data.toList.map fun b=>.int .u8 b.toNat
structure DdIn (X:Nat→Prop) (w:World) (x:Dd) (Ap Ak:Option Addr):Prop where
 p:∀ W0,Fr X w W0→Reads W0 W0.heap.size 1 Ap x.p.size (bvals x.p)
 k:∀ W0,Fr X w W0→Reads W0 W0.heap.size 1 Ak x.keep.length (x.keep.map (.int .i64))
 sa:x.a.size≤100000
 sb:x.b.size≤100000
 sp:x.p.size≤100000
 sk:x.keep.length≤100000
 n:-9223372036854775808≤x.n∧x.n≤9223372036854775807
def DoL (X:Nat→Prop) (w:World) (db:Nat) (r:Int × ByteArray × DP) (e:Ending) (w':World):Prop:=e=.returned (.tuple #[.int .i64 r.1,.string r.2.1])∧PD (More X w) w' db r.2.2∧Fr X w w'
section
variable {X X':Nat→Prop} {w w' w1 w2 w3:World} {db:Nat} {p p':DP} {x:Dd} {Ap Ak:Option Addr} {cp ck:Nat}
theorem PA.alloc (h:PA X w db p) (o:Obj):PA X (w.alloc o) db p :=
 ⟨h.pd.off (FrF.of_below (X:=fun _=>False) ((Below.refl _ w).alloc (Nat.le_refl _) o)) (fun _ _ h=>h),fun k hk=>by have:=h.lt k hk;simp;omega,h.after,h.chs,h.wrs⟩
theorem PA.drew (h:PA X w db p):PA X w.drew db p :=
 ⟨h.pd.off (FrF.of_below (X:=fun _=>False) (Below.refl _ w).drew) (fun _ _ h=>h),h.lt,h.after,h.chs,h.wrs⟩
theorem do_end {w0:World} (hB:Below w.heap.size w w0) (hlt:∀ k,X k→k<w.heap.size) (hp:PL X w0 db p' w1) (hf:Fr (FaultN w0.heap.size w1) w1 w2):PD (More X w) w2 db p'∧Fr X w w2:=by
 refine ⟨(hp.1.fault hf).more (fun k hk=>hk.imp id (fun h=>Nat.le_trans hB.size h)),?_⟩
 have h1:Fr X w w1:=(Fr.of_below hB).trans hp.2
 exact ⟨hf.os.trans h1.os,hf.tape.trans h1.tape,hf.output.trans h1.output,Nat.le_trans h1.size hf.size,fun k hk hx=>(hf.block k (Nat.lt_of_lt_of_le hk h1.size) (fun h=>by have h2:=h.1;have:=hB.size;omega)).trans (h1.block k hk hx)⟩
set_option maxHeartbeats 4000000 in
set_option maxRecDepth 100000 in
theorem do_create (h:PA X w db p) (hg:GlobAt w) (h0:¬ X 0) (ho:ArmOK p) (hd:DdIn X w x Ap Ak) (hk:x.kind=0) :
 Calls Tryz.prog 12 #[.pointer (some ⟨db,0,none⟩),x.val Ap cp Ak ck] w (DoL X w db ((createP p x.a).1,ByteArray.empty,(createP p x.a).2)):=by
 have bX0:=Blk.new w 39 #[.int .i64 0,.string x.a,.string x.b,.int .i64 x.n,.slice Ap x.p.size cp,.slice Ak x.keep.length ck]
 have hB0:Below w.heap.size w (w.alloc (.cells #[.int .i64 0,.string x.a,.string x.b,.int .i64 x.n,.slice Ap x.p.size cp,.slice Ak x.keep.length ck] 39)).drew:=((Below.refl _ w).alloc (Nat.le_refl _) _).drew
 have HA:=(h.alloc (.cells #[.int .i64 0,.string x.a,.string x.b,.int .i64 x.n,.slice Ap x.p.size cp,.slice Ak x.keep.length ck] 39)).drew
 have hx:¬ X w.heap.size:=fun hx=>absurd (h.lt _ hx) (Nat.lt_irrefl _)
 have hg0:=hg.off (FrF.of_below (X:=X) hB0) h0
 have kx:∀ W0,Blk W0 w.heap.size 39 #[.int .i64 0,.string x.a,.string x.b,.int .i64 x.n,.slice Ap x.p.size cp,.slice Ak x.keep.length ck]→W0.cell? ⟨w.heap.size,1,none⟩=some (.string x.a):=fun W0 h=>h.cell 1
 have hC:=pd_create HA x.a (Nat.le_trans hd.sa (by omega))
 have hcode:=createP_code ho x.a
 have HH:=Lib.hid (And.intro hcode (And.intro hg0 (And.intro hx h0)))
 clear hcode hg0 hx
 unfold Dd.val
 rw [hk]
 go_enter Tryz.func12,Tryz.ntmps12
 go_wp2
 go_region_held3 (fun W0=>W0.cell? ⟨w.heap.size,1,none⟩=some (.string x.a))
  (first
   | exact kx _ bX0
   | exact kx _ bX1
   | exact kx _ bX2)
  (first
   | ((go_at_call 22;refine hC.mono ?_;rintro e w1 ⟨⟨v,rfl,hE⟩,hL1⟩;have hG1:=HH.out.2.1.off (FrF.of_fr hL1.2) h0;have bX1:Blk w1 w.heap.size 39 _:=hL1.2.heap bX0 HH.out.2.2.1))
   | ((go_at_call 11;refine (told_at hG1 hE HH.out.1).mono ?_;rintro e w2 ⟨rfl,hF2⟩;have bX2:Blk w2 w.heap.size 39 _:=(FrF.of_fault (X:=X) hF2).keepc bX1 HH.out.2.2.1 (by decide))))
 go_wp2
 go_ret2
 exact ⟨rfl,do_end hB0 h.lt hL1 hF2⟩
set_option maxHeartbeats 4000000 in
set_option maxRecDepth 100000 in
theorem do_remove (h:PA X w db p) (hg:GlobAt w) (h0:¬ X 0) (ho:ArmOK p) (hd:DdIn X w x Ap Ak) (hk:x.kind=1) :
 Calls Tryz.prog 12 #[.pointer (some ⟨db,0,none⟩),x.val Ap cp Ak ck] w (DoL X w db ((removeP p x.a).1,ByteArray.empty,(removeP p x.a).2)):=by
 have bX0:=Blk.new w 39 #[.int .i64 1,.string x.a,.string x.b,.int .i64 x.n,.slice Ap x.p.size cp,.slice Ak x.keep.length ck]
 have hB0:Below w.heap.size w (w.alloc (.cells #[.int .i64 1,.string x.a,.string x.b,.int .i64 x.n,.slice Ap x.p.size cp,.slice Ak x.keep.length ck] 39)).drew:=((Below.refl _ w).alloc (Nat.le_refl _) _).drew
 have HA:=(h.alloc (.cells #[.int .i64 1,.string x.a,.string x.b,.int .i64 x.n,.slice Ap x.p.size cp,.slice Ak x.keep.length ck] 39)).drew
 have hx:¬ X w.heap.size:=fun hx=>absurd (h.lt _ hx) (Nat.lt_irrefl _)
 have hg0:=hg.off (FrF.of_below (X:=X) hB0) h0
 have kx:∀ W0,Blk W0 w.heap.size 39 #[.int .i64 1,.string x.a,.string x.b,.int .i64 x.n,.slice Ap x.p.size cp,.slice Ak x.keep.length ck]→W0.cell? ⟨w.heap.size,1,none⟩=some (.string x.a):=fun W0 h=>h.cell 1
 have hC:=pd_remove HA x.a
 have hcode:=removeP_code ho x.a
 have HH:=Lib.hid (And.intro hcode (And.intro hg0 (And.intro hx h0)))
 clear hcode hg0 hx
 unfold Dd.val
 rw [hk]
 go_enter Tryz.func12,Tryz.ntmps12
 go_wp2
 go_region_held3 (fun W0=>W0.cell? ⟨w.heap.size,1,none⟩=some (.string x.a))
  (first
   | exact kx _ bX0
   | exact kx _ bX1
   | exact kx _ bX2)
  (first
   | ((go_at_call 28;refine hC.mono ?_;rintro e w1 ⟨⟨v,rfl,hE⟩,hL1⟩;have hG1:=HH.out.2.1.off (FrF.of_fr hL1.2) h0;have bX1:Blk w1 w.heap.size 39 _:=hL1.2.heap bX0 HH.out.2.2.1))
   | ((go_at_call 11;refine (told_at hG1 hE HH.out.1).mono ?_;rintro e w2 ⟨rfl,hF2⟩;have bX2:Blk w2 w.heap.size 39 _:=(FrF.of_fault (X:=X) hF2).keepc bX1 HH.out.2.2.1 (by decide))))
 go_wp2
 go_ret2
 exact ⟨rfl,do_end hB0 h.lt hL1 hF2⟩
set_option maxHeartbeats 4000000 in
set_option maxRecDepth 100000 in
theorem do_rename (h:PA X w db p) (hg:GlobAt w) (h0:¬ X 0) (ho:ArmOK p) (hd:DdIn X w x Ap Ak) (hk:x.kind=2) :
 Calls Tryz.prog 12 #[.pointer (some ⟨db,0,none⟩),x.val Ap cp Ak ck] w (DoL X w db ((renameP p x.a x.b).1,ByteArray.empty,(renameP p x.a x.b).2)):=by
 have bX0:=Blk.new w 39 #[.int .i64 2,.string x.a,.string x.b,.int .i64 x.n,.slice Ap x.p.size cp,.slice Ak x.keep.length ck]
 have hB0:Below w.heap.size w (w.alloc (.cells #[.int .i64 2,.string x.a,.string x.b,.int .i64 x.n,.slice Ap x.p.size cp,.slice Ak x.keep.length ck] 39)).drew:=((Below.refl _ w).alloc (Nat.le_refl _) _).drew
 have HA:=(h.alloc (.cells #[.int .i64 2,.string x.a,.string x.b,.int .i64 x.n,.slice Ap x.p.size cp,.slice Ak x.keep.length ck] 39)).drew
 have hx:¬ X w.heap.size:=fun hx=>absurd (h.lt _ hx) (Nat.lt_irrefl _)
 have hg0:=hg.off (FrF.of_below (X:=X) hB0) h0
 have kx:∀ W0,Blk W0 w.heap.size 39 #[.int .i64 2,.string x.a,.string x.b,.int .i64 x.n,.slice Ap x.p.size cp,.slice Ak x.keep.length ck]→W0.cell? ⟨w.heap.size,1,none⟩=some (.string x.a)∧W0.cell? ⟨w.heap.size,2,none⟩=some (.string x.b):=fun W0 h=>⟨h.cell 1,h.cell 2⟩
 have hC:=pd_rename HA x.a x.b (Nat.le_trans hd.sb (by omega))
 have hcode:=renameP_code ho x.a x.b
 have HH:=Lib.hid (And.intro hcode (And.intro hg0 (And.intro hx h0)))
 clear hcode hg0 hx
 unfold Dd.val
 rw [hk]
 go_enter Tryz.func12,Tryz.ntmps12
 go_wp2
 go_region_held3 (fun W0=>W0.cell? ⟨w.heap.size,1,none⟩=some (.string x.a)∧W0.cell? ⟨w.heap.size,2,none⟩=some (.string x.b))
  (first
   | exact kx _ bX0
   | exact kx _ bX1
   | exact kx _ bX2)
  (first
   | ((go_at_call 32;refine hC.mono ?_;rintro e w1 ⟨⟨v,rfl,hE⟩,hL1⟩;have hG1:=HH.out.2.1.off (FrF.of_fr hL1.2) h0;have bX1:Blk w1 w.heap.size 39 _:=hL1.2.heap bX0 HH.out.2.2.1))
   | ((go_at_call 11;refine (told_at hG1 hE HH.out.1).mono ?_;rintro e w2 ⟨rfl,hF2⟩;have bX2:Blk w2 w.heap.size 39 _:=(FrF.of_fault (X:=X) hF2).keepc bX1 HH.out.2.2.1 (by decide))))
 go_wp2
 go_ret2
 exact ⟨rfl,do_end hB0 h.lt hL1 hF2⟩
set_option maxHeartbeats 4000000 in
set_option maxRecDepth 100000 in
theorem do_grow (h:PA X w db p) (hg:GlobAt w) (h0:¬ X 0) (ho:ArmOK p) (hd:DdIn X w x Ap Ak) (hk:x.kind=3) :
 Calls Tryz.prog 12 #[.pointer (some ⟨db,0,none⟩),x.val Ap cp Ak ck] w (DoL X w db ((growP p x.a x.n).1,ByteArray.empty,(growP p x.a x.n).2)):=by
 have bX0:=Blk.new w 39 #[.int .i64 3,.string x.a,.string x.b,.int .i64 x.n,.slice Ap x.p.size cp,.slice Ak x.keep.length ck]
 have hB0:Below w.heap.size w (w.alloc (.cells #[.int .i64 3,.string x.a,.string x.b,.int .i64 x.n,.slice Ap x.p.size cp,.slice Ak x.keep.length ck] 39)).drew:=((Below.refl _ w).alloc (Nat.le_refl _) _).drew
 have HA:=(h.alloc (.cells #[.int .i64 3,.string x.a,.string x.b,.int .i64 x.n,.slice Ap x.p.size cp,.slice Ak x.keep.length ck] 39)).drew
 have hx:¬ X w.heap.size:=fun hx=>absurd (h.lt _ hx) (Nat.lt_irrefl _)
 have hg0:=hg.off (FrF.of_below (X:=X) hB0) h0
 have kx:∀ W0,Blk W0 w.heap.size 39 #[.int .i64 3,.string x.a,.string x.b,.int .i64 x.n,.slice Ap x.p.size cp,.slice Ak x.keep.length ck]→W0.cell? ⟨w.heap.size,1,none⟩=some (.string x.a)∧W0.cell? ⟨w.heap.size,3,none⟩=some (.int .i64 x.n):=fun W0 h=>⟨h.cell 1,h.cell 3⟩
 have hC:=pd_grow HA x.a x.n
 have hcode:=growP_code ho x.a x.n
 have HH:=Lib.hid (And.intro hcode (And.intro hg0 (And.intro hx h0)))
 clear hcode hg0 hx
 unfold Dd.val
 rw [hk]
 go_enter Tryz.func12,Tryz.ntmps12
 go_wp2
 go_region_held3 (fun W0=>W0.cell? ⟨w.heap.size,1,none⟩=some (.string x.a)∧W0.cell? ⟨w.heap.size,3,none⟩=some (.int .i64 x.n))
  (first
   | exact kx _ bX0
   | exact kx _ bX1
   | exact kx _ bX2)
  (first
   | ((go_at_call 24;refine hC.mono ?_;rintro e w1 ⟨⟨v,rfl,hE⟩,hL1⟩;have hG1:=HH.out.2.1.off (FrF.of_fr hL1.2) h0;have bX1:Blk w1 w.heap.size 39 _:=hL1.2.heap bX0 HH.out.2.2.1))
   | ((go_at_call 11;refine (told_at hG1 hE HH.out.1).mono ?_;rintro e w2 ⟨rfl,hF2⟩;have bX2:Blk w2 w.heap.size 39 _:=(FrF.of_fault (X:=X) hF2).keepc bX1 HH.out.2.2.1 (by decide))))
 go_wp2
 go_ret2
 exact ⟨rfl,do_end hB0 h.lt hL1 hF2⟩
set_option maxHeartbeats 4000000 in
set_option maxRecDepth 100000 in
theorem do_sync (h:PA X w db p) (hg:GlobAt w) (h0:¬ X 0) (ho:ArmOK p) (hd:DdIn X w x Ap Ak) (hk:x.kind=6) :
 Calls Tryz.prog 12 #[.pointer (some ⟨db,0,none⟩),x.val Ap cp Ak ck] w (DoL X w db ((syncP p x.a).1,ByteArray.empty,(syncP p x.a).2)):=by
 have bX0:=Blk.new w 39 #[.int .i64 6,.string x.a,.string x.b,.int .i64 x.n,.slice Ap x.p.size cp,.slice Ak x.keep.length ck]
 have hB0:Below w.heap.size w (w.alloc (.cells #[.int .i64 6,.string x.a,.string x.b,.int .i64 x.n,.slice Ap x.p.size cp,.slice Ak x.keep.length ck] 39)).drew:=((Below.refl _ w).alloc (Nat.le_refl _) _).drew
 have HA:=(h.alloc (.cells #[.int .i64 6,.string x.a,.string x.b,.int .i64 x.n,.slice Ap x.p.size cp,.slice Ak x.keep.length ck] 39)).drew
 have hx:¬ X w.heap.size:=fun hx=>absurd (h.lt _ hx) (Nat.lt_irrefl _)
 have hg0:=hg.off (FrF.of_below (X:=X) hB0) h0
 have kx:∀ W0,Blk W0 w.heap.size 39 #[.int .i64 6,.string x.a,.string x.b,.int .i64 x.n,.slice Ap x.p.size cp,.slice Ak x.keep.length ck]→W0.cell? ⟨w.heap.size,1,none⟩=some (.string x.a):=fun W0 h=>h.cell 1
 have hC:=pd_sync HA x.a
 have hcode:=syncP_code ho x.a
 have HH:=Lib.hid (And.intro hcode (And.intro hg0 (And.intro hx h0)))
 clear hcode hg0 hx
 unfold Dd.val
 rw [hk]
 go_enter Tryz.func12,Tryz.ntmps12
 go_wp2
 go_region_held3 (fun W0=>W0.cell? ⟨w.heap.size,1,none⟩=some (.string x.a))
  (first
   | exact kx _ bX0
   | exact kx _ bX1
   | exact kx _ bX2)
  (first
   | ((go_at_call 33;refine hC.mono ?_;rintro e w1 ⟨⟨v,rfl,hE⟩,hL1⟩;have hG1:=HH.out.2.1.off (FrF.of_fr hL1.2) h0;have bX1:Blk w1 w.heap.size 39 _:=hL1.2.heap bX0 HH.out.2.2.1))
   | ((go_at_call 11;refine (told_at hG1 hE HH.out.1).mono ?_;rintro e w2 ⟨rfl,hF2⟩;have bX2:Blk w2 w.heap.size 39 _:=(FrF.of_fault (X:=X) hF2).keepc bX1 HH.out.2.2.1 (by decide))))
 go_wp2
 go_ret2
 exact ⟨rfl,do_end hB0 h.lt hL1 hF2⟩
set_option maxHeartbeats 4000000 in
set_option maxRecDepth 100000 in
theorem do_syncdir (h:PA X w db p) (hg:GlobAt w) (h0:¬ X 0) (ho:ArmOK p) (hd:DdIn X w x Ap Ak) (hk:x.kind=7) :
 Calls Tryz.prog 12 #[.pointer (some ⟨db,0,none⟩),x.val Ap cp Ak ck] w (DoL X w db ((syncdirP p).1,ByteArray.empty,(syncdirP p).2)):=by
 have bX0:=Blk.new w 39 #[.int .i64 7,.string x.a,.string x.b,.int .i64 x.n,.slice Ap x.p.size cp,.slice Ak x.keep.length ck]
 have hB0:Below w.heap.size w (w.alloc (.cells #[.int .i64 7,.string x.a,.string x.b,.int .i64 x.n,.slice Ap x.p.size cp,.slice Ak x.keep.length ck] 39)):=(Below.refl _ w).alloc (Nat.le_refl _) _
 have HA:=(h.alloc (.cells #[.int .i64 7,.string x.a,.string x.b,.int .i64 x.n,.slice Ap x.p.size cp,.slice Ak x.keep.length ck] 39))
 have hx:¬ X w.heap.size:=fun hx=>absurd (h.lt _ hx) (Nat.lt_irrefl _)
 have hg0:=hg.off (FrF.of_below (X:=X) hB0) h0
 have kx:∀ W0,Blk W0 w.heap.size 39 #[.int .i64 7,.string x.a,.string x.b,.int .i64 x.n,.slice Ap x.p.size cp,.slice Ak x.keep.length ck]→W0.cell? ⟨w.heap.size,0,none⟩=some (.int .i64 7):=fun W0 h=>h.cell 0
 have hC:=pd_syncdir HA
 have hcode:=syncdirP_code ho
 have HH:=Lib.hid (And.intro hcode (And.intro hg0 (And.intro hx h0)))
 clear hcode hg0 hx
 unfold Dd.val
 rw [hk]
 go_enter Tryz.func12,Tryz.ntmps12
 go_wp2_with (first
  | (go_at_call 23;refine hC.mono ?_;rintro e w1 ⟨⟨v,rfl,hE⟩,hL1⟩;have hG1:=HH.out.2.1.off (FrF.of_fr hL1.2) h0)
  | (go_at_call 11;refine (told_at hG1 hE HH.out.1).mono ?_;rintro e w2 ⟨rfl,hF2⟩))
 go_ret2
 exact ⟨rfl,do_end hB0 h.lt hL1 hF2⟩
end
end
section
open Go.RowKit
theorem TIn:SlT Tryz.prog 37 3 1 8:=SlT.of Tryz.underlying37 (z:=.int .i64 0) (by kernel_rfl) rfl (by omega) (by omega)
theorem bvals_one (s:ByteArray):∀ u∈bvals s,u.oneCell'=true:=by
 intro u hu
 obtain ⟨b,_,rfl⟩:=List.mem_map.1 hu
 rfl
theorem ints_one (l:List Int):∀ u∈l.map (Value.int .i64),u.oneCell'=true:=by
 intro u hu
 obtain ⟨b,_,rfl⟩:=List.mem_map.1 hu
 rfl
section
variable {X X':Nat→Prop} {w w' w1 w2 w3:World} {db:Nat} {p p':DP} {x:Dd} {Ap Ak:Option Addr} {cp ck:Nat}
theorem own_str {B n c:Nat} {A:Option Addr} {s:ByteArray} (hs:n=s.size) (h:w.ownsRow B 5 1 (.slice A n c) n (bvals s)):StrOr w (.slice A n c) s:=by
 subst hs
 rcases h.2 with ⟨h1,h2⟩ | ⟨g,cap,cur,h1,_,h2,h3,_,h5,h6⟩
 ·refine .inr ⟨?_,?_⟩
  ·rw [h1]
  ·have:s.size=0:=h2
   exact ByteArray.ext (Array.eq_empty_of_size_eq_zero this)
 ·refine .inl ⟨g,c,?_,(Array.getElem?_eq_some_iff.1 h2).1,fun j hj=>?_⟩
  ·simp only [Value.slice.injEq] at h1
   rw [h1.1]
  ·rw [(show Blk w g 5 cur from h2).cell]
   have:(bvals s)[j]?=cur[j]?:=by rw [←h6,List.getElem?_take,if_pos (by omega)];simp
   rw [←this]
   unfold bvals
   rw [List.getElem?_map,List.getD_eq_getElem?_getD,List.getElem?_eq_getElem (by simpa using hj)]
   rfl
theorem StrOr.conv {v:Value} {s:ByteArray} (h:StrOr w v s) {t:TypeId} (ht:Tryz.prog.underlying t=some .string):(convert 36 t v).run Tryz.prog w=.ok (.string s) w:=by
 rcases h with h | ⟨rfl,rfl⟩
 ·exact h.conv ht
 ·exact run_convert_bytes_nil w 36 5 Tryz.underlying36 Tryz.underlying5 0 0 t ht
theorem StrAt.heap {v:Value} {s:ByteArray} (h:StrAt w v s) (hk:∀ g,g<w.heap.size→(∀ c,v=.slice (some ⟨g,0,none⟩) s.size c→0<s.size→w'.heap[g]?=w.heap[g]?)) (hs:w.heap.size≤w'.heap.size):StrAt w' v s:=by
 obtain ⟨g,c,h1,h2,h3⟩:=h
 refine ⟨g,c,h1,Nat.lt_of_lt_of_le h2 hs,fun j hj=>?_⟩
 rw [World.cell?_of_block (w:=w) (hk g h2 c h1 (by omega))]
 exact h3 j hj
theorem StrOr.fault {v:Value} {s:ByteArray} (h:StrOr w v s) {B:Nat} (hf:Fr (FaultN B w) w w'):StrOr w' v s:=by
 rcases h with h | h
 ·refine .inl (h.heap (fun g hg c hv h0=>hf.block g hg ?_) hf.size)
  rintro ⟨_,a,b,d,hb⟩
  obtain ⟨g',c',h1,h2,h3⟩:=h
  rw [hv] at h1
  simp only [Value.slice.injEq,Option.some.injEq,Addr.mk.injEq] at h1
  obtain ⟨⟨rfl,_⟩,_⟩:=h1
  have h4:=h3 0 h0
  rw [(show Blk w g 77 _ from hb).cell] at h4
  simp at h4
 ·exact .inr h
theorem PA.below (h:PA X w db p) (hb:Below w.heap.size w w'):PA X w' db p :=
 ⟨h.pd.off (FrF.of_below (X:=fun _=>False) hb) (fun _ _ h=>h),fun k hk=>Nat.lt_of_lt_of_le (h.lt k hk) hb.size,h.after,h.chs,h.wrs⟩
set_option maxHeartbeats 4000000 in
set_option maxRecDepth 100000 in
theorem do_write (h:PA X w db p) (hg:GlobAt w) (h0:¬ X 0) (ho:ArmOK p) (hd:DdIn X w x Ap Ak) (hk:x.kind=4) :
 Calls Tryz.prog 12 #[.pointer (some ⟨db,0,none⟩),x.val Ap cp Ak ck] w (DoL X w db ((writeP p x.a x.n x.p).1,ByteArray.empty,(writeP p x.a x.n x.p).2)):=by
 have bX0:=Blk.new w 39 #[.int .i64 4,.string x.a,.string x.b,.int .i64 x.n,.slice Ap x.p.size cp,.slice Ak x.keep.length ck]
 have hB0:Below w.heap.size w (w.alloc (.cells #[.int .i64 4,.string x.a,.string x.b,.int .i64 x.n,.slice Ap x.p.size cp,.slice Ak x.keep.length ck] 39)).drew:=((Below.refl _ w).alloc (Nat.le_refl _) _).drew
 have k0:KS w w.heap.size 39 #[.int .i64 4,.string x.a,.string x.b,.int .i64 x.n,.slice Ap x.p.size cp,.slice Ak x.keep.length ck] (w.alloc (.cells #[.int .i64 4,.string x.a,.string x.b,.int .i64 x.n,.slice Ap x.p.size cp,.slice Ak x.keep.length ck] 39)):=KS.new w _ _
 have hx:¬ X w.heap.size:=fun hx=>absurd (h.lt _ hx) (Nat.lt_irrefl _)
 have kx:∀ W0,Blk W0 w.heap.size 39 #[.int .i64 4,.string x.a,.string x.b,.int .i64 x.n,.slice Ap x.p.size cp,.slice Ak x.keep.length ck]→W0.cell? ⟨w.heap.size,1,none⟩=some (.string x.a)∧W0.cell? ⟨w.heap.size,3,none⟩=some (.int .i64 x.n)∧W0.cell? ⟨w.heap.size,4,none⟩=some (.slice Ap x.p.size cp):=fun W0 h=>⟨h.cell 1,h.cell 3,h.cell 4⟩
 have hcode:=writeP_code ho x.a x.n x.p
 have hBE:Below w.heap.size w ((w.alloc (.cells #[.int .i64 4,.string x.a,.string x.b,.int .i64 x.n,.slice Ap x.p.size cp,.slice Ak x.keep.length ck] 39)).alloc (.cells #[] 5)).drew:=(((Below.refl _ w).alloc (Nat.le_refl _) _).alloc (by simp) _).drew
 have hrp:=hd.p _ (Fr.of_below hBE)
 have hPW:∀ (A1:Option Addr) (c1:Nat) w1,Below w.heap.size w w1→w1.ownsRow w.heap.size 5 1 (.slice A1 x.p.size c1) x.p.size (bvals x.p)→Calls Tryz.prog 25 #[.pointer (some ⟨db,0,none⟩),.string x.a,.int .i64 x.n,.slice A1 x.p.size c1] w1 fun e w'=>Ends w1 opWrite x.a (writeP p x.a x.n x.p).1 e w'∧PL X w1 db (writeP p x.a x.n x.p).2 w':=fun A1 c1 w1 hb hown=>by
  refine pd_write (h.below hb) x.a x.n (fun W hW=>?_)
  have hs:=own_str rfl hown
  rcases hs with hs | hs
  ·refine (hs.heap (fun g hg c hv h0=>hW.block g hg (fun hx=>?_)) hW.size).conv Tryz.underlying101
   have h1:=(hown.lt g (by rw [hv];rfl)).1
   have h2:=h.lt g hx
   omega
  ·exact StrOr.conv (.inr hs) Tryz.underlying101
 have HH:=Lib.hid (And.intro hcode (And.intro hg (And.intro hx (And.intro h0 (And.intro hPW hd)))))
 clear hcode hx hPW
 have hsp:=hd.sp
 have hsz:x.p.size≤1000000:=Nat.le_trans hsp (by omega)
 clear hsp
 unfold Dd.val
 rw [hk]
 go_enter Tryz.func12,Tryz.ntmps12
 go_wp2
 go_region_held3 (fun W0=>W0.cell? ⟨w.heap.size,1,none⟩=some (.string x.a)∧W0.cell? ⟨w.heap.size,3,none⟩=some (.int .i64 x.n)∧W0.cell? ⟨w.heap.size,4,none⟩=some (.slice Ap x.p.size cp))
  (first
   | exact kx _ bX0
   | exact kx _ (bX0.alloc _)
   | exact kx _ k1.1
   | exact kx _ bX2
   | exact kx _ bX3)
  (first
   | ((refine step_push TBy (by rfl) (by rfl) w.heap.size (by rfl) (own_emptyH _ _ _ (by simp) (by omega)) (by rfl) hrp (bvals_one _) (by omega) (by simp;omega) (Nat.zero_add _) (List.nil_append _) ?_;intro A1 c1 w1 ho1 hg1 hl1;have k1:KS w w.heap.size 39 _ w1:=KS.grown ((k0.alloc _).drew) hg1 (by intro k e;cases e;dsimp only;exact ⟨by omega,by omega⟩)))
   | ((go_at_call 25;refine (HH.out.2.2.2.2.1 _ _ _ k1.2 ho1).mono ?_;rintro e w2 ⟨⟨v,rfl,hE⟩,hL2⟩;have hG2:=(HH.out.2.1.off (FrF.of_below (X:=X) k1.2) h0).off (FrF.of_fr hL2.2) h0;have bX2:Blk w2 w.heap.size 39 _:=hL2.2.heap k1.1 HH.out.2.2.1))
   | ((go_at_call 11;refine (told_at hG2 hE HH.out.1).mono ?_;rintro e w3 ⟨rfl,hF3⟩;have bX3:Blk w3 w.heap.size 39 _:=(FrF.of_fault (X:=X) hF3).keepc bX2 HH.out.2.2.1 (by decide))))
 go_wp2
 go_ret2
 exact ⟨rfl,do_end k1.2 h.lt hL2 hF3⟩
set_option maxHeartbeats 4000000 in
set_option maxRecDepth 100000 in
theorem do_read (h:PA X w db p) (hg:GlobAt w) (h0:¬ X 0) (ho:ArmOK p) (hd:DdIn X w x Ap Ak) (hk:x.kind=5) :
 Calls Tryz.prog 12 #[.pointer (some ⟨db,0,none⟩),x.val Ap cp Ak ck] w (DoL X w db (readP p x.a x.n)):=by
 have bX0:=Blk.new w 39 #[.int .i64 5,.string x.a,.string x.b,.int .i64 x.n,.slice Ap x.p.size cp,.slice Ak x.keep.length ck]
 have hB0:Below w.heap.size w (w.alloc (.cells #[.int .i64 5,.string x.a,.string x.b,.int .i64 x.n,.slice Ap x.p.size cp,.slice Ak x.keep.length ck] 39)):=(Below.refl _ w).alloc (Nat.le_refl _) _
 have HA:=(h.alloc (.cells #[.int .i64 5,.string x.a,.string x.b,.int .i64 x.n,.slice Ap x.p.size cp,.slice Ak x.keep.length ck] 39))
 have hx:¬ X w.heap.size:=fun hx=>absurd (h.lt _ hx) (Nat.lt_irrefl _)
 have hg0:=hg.off (FrF.of_below (X:=X) hB0) h0
 have kx0:∀ W0,Blk W0 w.heap.size 39 #[.int .i64 5,.string x.a,.string x.b,.int .i64 x.n,.slice Ap x.p.size cp,.slice Ak x.keep.length ck]→W0.cell? ⟨w.heap.size,1,none⟩=some (.string x.a)∧W0.cell? ⟨w.heap.size,3,none⟩=some (.int .i64 x.n):=fun W0 h=>⟨h.cell 1,h.cell 3⟩
 have hC:=pd_read HA x.a x.n
 have hcode:=readP_code ho x.a x.n
 have HH:=Lib.hid (And.intro hcode (And.intro hg0 (And.intro hx h0)))
 clear hcode hg0 hx
 unfold Dd.val
 rw [hk]
 go_enter Tryz.func12,Tryz.ntmps12
 go_wp2_with (go_at_call 26;refine hC.mono ?_;rintro e w1 ⟨⟨v,u,rfl,hS,hE⟩,hL1⟩;have hG1:=HH.out.2.1.off (FrF.of_fr hL1.2) h0;have bX1:Blk w1 w.heap.size 39 _:=hL1.2.heap bX0 HH.out.2.2.1)
 have hG1d:GlobAt w1.drew:=hG1
 have hEd:ErrAt (w.alloc (.cells #[.int .i64 5,.string x.a,.string x.b,.int .i64 x.n,.slice Ap x.p.size cp,.slice Ak x.keep.length ck] 39)).heap.size w1.drew opRead x.a (readP p x.a x.n).1 u:=hE
 have hSd:StrOr w1.drew v (readP p x.a x.n).2.1:=hS
 have hv1:=StrOr.conv hSd Tryz.underlying9
 have kx:∀ W0,Blk W0 w.heap.size 39 #[.int .i64 5,.string x.a,.string x.b,.int .i64 x.n,.slice Ap x.p.size cp,.slice Ak x.keep.length ck]→(convert 36 9 v).run Tryz.prog W0=.ok (.string (readP p x.a x.n).2.1) W0→W0.cell? ⟨w.heap.size,1,none⟩=some (.string x.a)∧(convert 36 9 v).run Tryz.prog W0=.ok (.string (readP p x.a x.n).2.1) W0:=fun W0 h h'=>⟨h.cell 1,h'⟩
 go_region_held3 (fun W0=>W0.cell? ⟨w.heap.size,1,none⟩=some (.string x.a)∧(convert 36 9 v).run Tryz.prog W0=.ok (.string (readP p x.a x.n).2.1) W0)
  (first
   | exact kx _ bX1 hv1
   | exact kx _ bX2 hv2)
  (first
   | ((go_at_call 11;refine (told_at hG1d hEd HH.out.1).mono ?_;rintro e w2 ⟨rfl,hF2d⟩;have hF2:Fr (FaultN (w.alloc (.cells #[.int .i64 5,.string x.a,.string x.b,.int .i64 x.n,.slice Ap x.p.size cp,.slice Ak x.keep.length ck] 39)).heap.size w1) w1 w2:=⟨hF2d.os,hF2d.tape,hF2d.output,hF2d.size,hF2d.block⟩;have bX2:Blk w2 w.heap.size 39 _:=(FrF.of_fault (X:=X) hF2).keepc bX1 HH.out.2.2.1 (by decide);have hv2:=StrOr.conv (hS.fault hF2) Tryz.underlying9)))
 go_wp2
 go_ret2
 exact ⟨rfl,do_end hB0 h.lt hL1 hF2⟩
end
end
section
open Go.RowKit
section
variable {X X':Nat→Prop} {w w' w1 w2 w3:World} {db:Nat} {p p':DP} {x:Dd} {Ap Ak:Option Addr} {cp ck:Nat}
set_option maxHeartbeats 4000000 in
set_option maxRecDepth 100000 in
theorem do_arm (h:PA X w db p) (hg:GlobAt w) (h0:¬ X 0) (ho:ArmOK p) (hd:DdIn X w x Ap Ak) (hk:x.kind=8) :
 Calls Tryz.prog 12 #[.pointer (some ⟨db,0,none⟩),x.val Ap cp Ak ck] w (DoL X w db (0,ByteArray.empty,armP p x.n x.p.size)):=by
 have bX0:=Blk.new w 39 #[.int .i64 8,.string x.a,.string x.b,.int .i64 x.n,.slice Ap x.p.size cp,.slice Ak x.keep.length ck]
 have hB0:Below w.heap.size w (w.alloc (.cells #[.int .i64 8,.string x.a,.string x.b,.int .i64 x.n,.slice Ap x.p.size cp,.slice Ak x.keep.length ck] 39)):=(Below.refl _ w).alloc (Nat.le_refl _) _
 have HA:=(h.alloc (.cells #[.int .i64 8,.string x.a,.string x.b,.int .i64 x.n,.slice Ap x.p.size cp,.slice Ak x.keep.length ck] 39))
 have kx:∀ W0,Blk W0 w.heap.size 39 #[.int .i64 8,.string x.a,.string x.b,.int .i64 x.n,.slice Ap x.p.size cp,.slice Ak x.keep.length ck]→W0.cell? ⟨w.heap.size,3,none⟩=some (.int .i64 x.n)∧W0.cell? ⟨w.heap.size,4,none⟩=some (.slice Ap x.p.size cp):=fun W0 h=>⟨h.cell 3,h.cell 4⟩
 have hC:=pd_arm HA x.n x.p.size
 have hsp:=hd.sp
 have hsz:x.p.size≤1000000:=Nat.le_trans hsp (by omega)
 clear hsp
 unfold Dd.val
 rw [hk]
 go_enter Tryz.func12,Tryz.ntmps12
 go_wp2_with (go_at_call 34;refine hC.mono ?_;rintro e w1 ⟨rfl,hL1⟩)
 go_ret2
 exact ⟨rfl,hL1.1.more (fun k hk=>hk.imp id (fun h=>Nat.le_trans hB0.size h)),(Fr.of_below hB0).trans hL1.2⟩
set_option maxHeartbeats 4000000 in
set_option maxRecDepth 100000 in
theorem do_crash (h:PA X w db p) (hg:GlobAt w) (h0:¬ X 0) (ho:ArmOK p) (hd:DdIn X w x Ap Ak) (hk:x.kind=9) :
 Calls Tryz.prog 12 #[.pointer (some ⟨db,0,none⟩),x.val Ap cp Ak ck] w (DoL X w db (0,ByteArray.empty,crashP p x.n x.keep)):=by
 have bX0:=Blk.new w 39 #[.int .i64 9,.string x.a,.string x.b,.int .i64 x.n,.slice Ap x.p.size cp,.slice Ak x.keep.length ck]
 have k0:KS w w.heap.size 39 #[.int .i64 9,.string x.a,.string x.b,.int .i64 x.n,.slice Ap x.p.size cp,.slice Ak x.keep.length ck] (w.alloc (.cells #[.int .i64 9,.string x.a,.string x.b,.int .i64 x.n,.slice Ap x.p.size cp,.slice Ak x.keep.length ck] 39)):=KS.new w _ _
 have kx:∀ W0,Blk W0 w.heap.size 39 #[.int .i64 9,.string x.a,.string x.b,.int .i64 x.n,.slice Ap x.p.size cp,.slice Ak x.keep.length ck]→W0.cell? ⟨w.heap.size,3,none⟩=some (.int .i64 x.n)∧W0.cell? ⟨w.heap.size,5,none⟩=some (.slice Ak x.keep.length ck):=fun W0 h=>⟨h.cell 3,h.cell 5⟩
 have hBE:Below w.heap.size w ((w.alloc (.cells #[.int .i64 9,.string x.a,.string x.b,.int .i64 x.n,.slice Ap x.p.size cp,.slice Ak x.keep.length ck] 39)).alloc (.cells #[] 3)).drew:=(((Below.refl _ w).alloc (Nat.le_refl _) _).alloc (by simp) _).drew
 have hrp:=hd.k _ (Fr.of_below hBE)
 have hPW:∀ (A1:Option Addr) (c1:Nat) w1,Below w.heap.size w w1→w1.ownsRow w.heap.size 3 1 (.slice A1 x.keep.length c1) x.keep.length (x.keep.map (.int .i64))→Calls Tryz.prog 19 #[.pointer (some ⟨db,0,none⟩),.int .i64 x.n,.slice A1 x.keep.length c1] w1 fun e w'=>e=.returned (.tuple #[])∧PL X w1 db (crashP p x.n x.keep) w':=fun A1 c1 w1 hb hown=>by
  refine pd_crash (h.below hb) x.n hd.n (fun W hW=>?_) (Nat.le_trans hd.sk (by omega))
  have hr:=(RowX.of_own (X:=fun k=>w.heap.size≤k) hown (fun k hk=>(hown.lt k hk).1)).keep (w':=W) (X':=fun _=>True) (fun k cs hk _ hc=>hW.heap hc (fun hx=>absurd (h.lt _ hx) (Nat.not_lt.2 hk))) (fun _ _=>trivial)
  exact hr.reads rfl
 have hx:¬ X w.heap.size:=fun hx=>absurd (h.lt _ hx) (Nat.lt_irrefl _)
 have HH:=Lib.hid (And.intro hPW (And.intro hx hd))
 clear hPW
 have hsp:=hd.sk
 have hsz:x.keep.length≤1000000:=Nat.le_trans hsp (by omega)
 clear hsp
 unfold Dd.val
 rw [hk]
 go_enter Tryz.func12,Tryz.ntmps12
 go_wp2
 go_region_held3 (fun W0=>W0.cell? ⟨w.heap.size,3,none⟩=some (.int .i64 x.n)∧W0.cell? ⟨w.heap.size,5,none⟩=some (.slice Ak x.keep.length ck))
  (first
   | exact kx _ bX0
   | exact kx _ (bX0.alloc _)
   | exact kx _ k1.1
   | exact kx _ bX2)
  (first
   | ((refine step_push TIn (by rfl) (by rfl) w.heap.size (by rfl) (own_emptyH _ _ _ (by simp) (by omega)) (by rfl) hrp (ints_one _) (by omega) (by simp;omega) (Nat.zero_add _) (List.nil_append _) ?_;intro A1 c1 w1 ho1 hg1 hl1;have k1:KS w w.heap.size 39 _ w1:=KS.grown ((k0.alloc _).drew) hg1 (by intro k e;cases e;dsimp only;exact ⟨by omega,by omega⟩)))
   | ((go_at_call 19;refine (HH.out.1 _ _ _ k1.2 ho1).mono ?_;rintro e w2 ⟨rfl,hL2⟩;have bX2:Blk w2 w.heap.size 39 _:=hL2.2.heap k1.1 HH.out.2.1)))
 go_wp2
 go_ret2
 exact ⟨rfl,hL2.1.more (fun k hk=>hk.imp id (fun h=>Nat.le_trans k1.2.size h)),(Fr.of_below k1.2).trans hL2.2⟩
set_option maxHeartbeats 4000000 in
set_option maxRecDepth 100000 in
theorem do_none (h:PA X w db p) (hn:x.kind<0∨9<x.kind) :
 Calls Tryz.prog 12 #[.pointer (some ⟨db,0,none⟩),x.val Ap cp Ak ck] w (DoL X w db (0,ByteArray.empty,p)):=by
 have e0:(x.kind==0)=false:=beq_eq_false_iff_ne.2 (by omega)
 have e1:(x.kind==1)=false:=beq_eq_false_iff_ne.2 (by omega)
 have e2:(x.kind==2)=false:=beq_eq_false_iff_ne.2 (by omega)
 have e3:(x.kind==3)=false:=beq_eq_false_iff_ne.2 (by omega)
 have e4:(x.kind==4)=false:=beq_eq_false_iff_ne.2 (by omega)
 have e5:(x.kind==5)=false:=beq_eq_false_iff_ne.2 (by omega)
 have e6:(x.kind==6)=false:=beq_eq_false_iff_ne.2 (by omega)
 have e7:(x.kind==7)=false:=beq_eq_false_iff_ne.2 (by omega)
 have e8:(x.kind==8)=false:=beq_eq_false_iff_ne.2 (by omega)
 have e9:(x.kind==9)=false:=beq_eq_false_iff_ne.2 (by omega)
 have hB:Below w.heap.size w (w.alloc (.cells #[.int .i64 x.kind,.string x.a,.string x.b,.int .i64 x.n,.slice Ap x.p.size cp,.slice Ak x.keep.length ck] 39)):=(Below.refl _ w).alloc (Nat.le_refl _) _
 unfold Dd.val
 go_enter Tryz.func12,Tryz.ntmps12
 go_wp2
 go_ret2
 exact ⟨rfl,(h.below hB).pd.more (fun k hk=>.inl hk),Fr.of_below hB⟩
theorem do_any (h:PA X w db p) (hg:GlobAt w) (h0:¬ X 0) (ho:ArmOK p) (hd:DdIn X w x Ap Ak) :
 Calls Tryz.prog 12 #[.pointer (some ⟨db,0,none⟩),x.val Ap cp Ak ck] w (DoL X w db (doP p x)):=by
 unfold doP
 by_cases e0:x.kind=0
 ·rw [if_pos e0];exact do_create h hg h0 ho hd e0
 rw [if_neg e0]
 by_cases e1:x.kind=1
 ·rw [if_pos e1];exact do_remove h hg h0 ho hd e1
 rw [if_neg e1]
 by_cases e2:x.kind=2
 ·rw [if_pos e2];exact do_rename h hg h0 ho hd e2
 rw [if_neg e2]
 by_cases e3:x.kind=3
 ·rw [if_pos e3];exact do_grow h hg h0 ho hd e3
 rw [if_neg e3]
 by_cases e4:x.kind=4
 ·rw [if_pos e4];exact do_write h hg h0 ho hd e4
 rw [if_neg e4]
 by_cases e5:x.kind=5
 ·rw [if_pos e5];exact do_read h hg h0 ho hd e5
 rw [if_neg e5]
 by_cases e6:x.kind=6
 ·rw [if_pos e6];exact do_sync h hg h0 ho hd e6
 rw [if_neg e6]
 by_cases e7:x.kind=7
 ·rw [if_pos e7];exact do_syncdir h hg h0 ho hd e7
 rw [if_neg e7]
 by_cases e8:x.kind=8
 ·rw [if_pos e8];exact do_arm h hg h0 ho hd e8
 rw [if_neg e8]
 by_cases e9:x.kind=9
 ·rw [if_pos e9];exact do_crash h hg h0 ho hd e9
 rw [if_neg e9]
 exact do_none h (by omega)
end
end
section
open Go.RowKit
theorem en_one (l:List En):∀ u∈encells l,u.oneCell'=true:=by
 intro u hu
 obtain ⟨x,_,hx⟩:=List.mem_flatMap.1 hu
 simp only [En.cells,List.mem_cons,List.not_mem_nil,or_false] at hx
 rcases hx with rfl | rfl <;> rfl
theorem en_one1 (e:En):∀ u∈e.cells,u.oneCell'=true:=fun u hu=>en_one [e] u (by simpa [encells] using hu)
def EnRow (w:World) (A:Option Addr) (l:List En):Prop:=0<l.length→∃ g cur,A=some ⟨g,0,none⟩∧Blk w g 137 cur∧∀ (j:Nat) (u:Value),(encells l)[j]?=some u→cur[j]?=some u
theorem EnRow.reads {w:World} {A:Option Addr} {l:List En} (h:EnRow w A l):Reads w w.heap.size 2 A l.length (encells l):=by
 refine ⟨by rw [en_len],fun h0=>?_⟩
 obtain ⟨g,cur,rfl,hg,hc⟩:=h h0
 refine ⟨_,rfl,hg.lt,fun j x hx=>?_⟩
 have e:(⟨g,0,none⟩:Addr).add j=⟨g,j,none⟩:=by unfold Addr.add;split <;> simp_all
 rw [e,hg.cell]
 exact hc j x hx
theorem EnRow.of_row {X:Nat→Prop} {w:World} {A:Option Addr} {c n:Nat} {l:List En} (h:RowX X w 137 2 (.slice A n c) l.length (encells l)):EnRow w A l:=fun h0=>by
 obtain ⟨g,c',cur,hv,_,hg,_,hcur⟩:=h.row h0
 simp only [Value.slice.injEq] at hv
 exact ⟨g,cur,hv.1,hg,hcur⟩
def outE:Ch→En→List En
 | .new _ _,e=>[e]
 | .gone nm,e=>if e.nm=nm then [] else [e]
 | .moved a b,e=>if e.nm=a then [⟨b,e.id⟩] else if e.nm=b then [] else [e]
theorem turn_flat_gone (nm:ByteArray) (d:List En):turnP d (.gone nm)=d.flatMap (outE (.gone nm)):=by
 simp only [turnP]
 induction d with
 | nil=>rfl
 | cons x d ih =>
  rw [List.filter_cons,List.flatMap_cons,ih]
  by_cases h:x.nm=nm
  ·simp [outE,h]
  ·simp [outE,h]
theorem turn_flat_moved {a b:ByteArray} (hab:a≠b) (d:List En):turnP d (.moved a b)=d.flatMap (outE (.moved a b)):=by
 simp only [turnP,if_neg hab]
 induction d with
 | nil=>rfl
 | cons x d ih =>
  rw [List.filterMap_cons,List.flatMap_cons,←ih]
  by_cases h:x.nm=a
  ·simp [outE,h]
  ·by_cases h2:x.nm=b
   ·rw [if_neg h,if_pos h2]
    simp [outE,if_neg h,if_pos h2]
   ·simp [outE,h,h2]
theorem flat_take_succ {c:Ch} {l:List En} {j:Nat} {x:En} (hx:l[j]?=some x):(l.take (j+1)).flatMap (outE c)=(l.take j).flatMap (outE c)++outE c x:=by
 rw [List.take_add_one,hx];simp
theorem flat_take_len (c:Ch) (l:List En) (j:Nat):((l.take j).flatMap (outE c)).length≤l.length:=by
 have h1:∀ m:List En,(m.flatMap (outE c)).length≤m.length:=fun m=>by
  induction m with
  | nil=>simp
  | cons x m ih =>
   rw [List.flatMap_cons,List.length_append,List.length_cons]
   have:(outE c x).length≤1:=by cases c <;> simp only [outE] <;> (try split) <;> (try split) <;> simp
   omega
 exact Nat.le_trans (h1 _) (by rw [List.length_take];omega)
def ChgRel (w:World) (arr:Array Value) (c:Ch) (l:List En) (out i:Value) (wr:World):Prop :=
 ∃ j A' c',j≤l.length∧i=.int .i64 j∧out=.slice A' ((l.take j).flatMap (outE c)).length c'∧wr.ownsRow (w.heap.size+1) 137 2 out ((l.take j).flatMap (outE c)).length (encells ((l.take j).flatMap (outE c)))∧KS w w.heap.size 162 arr wr
section
variable {X:Nat→Prop} {w:World}
set_option maxHeartbeats 4000000 in
set_option maxRecDepth 100000 in
theorem RChange_new {A:Option Addr} {c:Nat} {l:List En} (hr0:EnRow w A l) (hl:l.length≤1000) (nm:ByteArray) (i:Nat) :
 Calls Tryz.prog 89 #[.slice A l.length c,.agg #[.int .i64 0,.string nm,.string ByteArray.empty,.int .i64 i]] w fun e w'=>∃ v,e=.returned v∧w'.ownsRow w.heap.size 137 2 v (l.length+1) (encells (l++[⟨nm,i⟩]))∧Below w.heap.size w w':=by
 have h:=hr0.reads
 have k0:=KS.new w 162 #[.int .i64 0,.string nm,.string ByteArray.empty,.int .i64 i]
 have kc:∀ W,KS w w.heap.size 162 #[.int .i64 0,.string nm,.string ByteArray.empty,.int .i64 i] W→W.cell? ⟨w.heap.size,1,none⟩=some (.string nm)∧W.cell? ⟨w.heap.size,3,none⟩=some (.int .i64 i):=fun W h=>⟨h.1.cell 1,h.1.cell 3⟩
 go_enter Tryz.func89,Tryz.ntmps89
 go_wp2
 go_region_held3 (fun W=>W.cell? ⟨w.heap.size,1,none⟩=some (.string nm)∧W.cell? ⟨w.heap.size,3,none⟩=some (.int .i64 i))
  (exact kc _ (by repeat (first | exact k0 | exact k1 | exact k2 | apply KS.drew | apply KS.alloc)))
  (first
  | ((refine step_push TEn (by rfl) (s:=.tmp 10) (by rfl) w.heap.size (by rfl) (by first | exact own_emptyH _ _ _ (by simp) (by omega) | exact (own_emptyH _ _ _ (by simp) (by omega)).alloc _) (by rfl) (h.below (by repeat (first | exact Below.refl _ _ | apply Below.drew | refine Below.alloc ?_ (by simp <;> omega) _))) (en_one l) (by omega) (by simp;omega) (Nat.zero_add _) (List.nil_append _) ?_;intro A1 c1 w1 ho1 hg1 hl1;have k1:KS w w.heap.size 162 #[.int .i64 0,.string nm,.string ByteArray.empty,.int .i64 i] w1:=KS.grown (by repeat (first | exact k0 | apply KS.drew | apply KS.alloc)) hg1 (by intro k e;cases e;dsimp only;exact ⟨by omega,by omega⟩);have r1:∀ k,(.slice A1 l.length c1:Value).ownBlock=some k→w.heap.size≤k∧k≠w.heap.size:=(by intro k e;rcases hl1 with h9 | h9 <;> rw [h9] at e <;> cases e <;> simp <;> omega)))
  | ((refine step_push TEn (by rfl) (s:=.tmp 12) (by rfl) w.heap.size (by rfl) (by first | exact ho1 | exact ho1.alloc _) (by rfl) (reads_blk (cs:=#[.string nm,.int .i64 i]) (by first | (with_reducible exact blk_newH _ _ _ (by simp)) | exact blk_grown (by first | (with_reducible exact blk_newH _ _ _ (by simp)) | (with_reducible exact blk_drew (blk_newH _ _ _ (by simp))) | (with_reducible exact blk_alloc (blk_newH _ _ _ (by simp))) | (with_reducible exact blk_drew (blk_alloc (blk_newH _ _ _ (by simp))))) hg1 (by simp [Value.ownBlock])) rfl) (en_one1 ⟨nm,i⟩) (by omega) (by first | exact k1.2.size | (have:=k1.2.size;simp;omega)) rfl (ys:=encells (l++[⟨nm,i⟩])) (by rw [en_append];rfl) ?_;intro A2 c2 w2 ho2 hg2 hl2;have k2:KS w w.heap.size 162 #[.int .i64 0,.string nm,.string ByteArray.empty,.int .i64 i] w2:=KS.grown (by repeat (first | exact k1 | apply KS.alloc)) hg2 r1)))
 all_goals
  go_wp2
  go_ret
  exact ⟨_,rfl,ho2,k2.2⟩
set_option maxHeartbeats 4000000 in
set_option maxRecDepth 100000 in
theorem RChange_gone {A:Option Addr} {c:Nat} {l:List En} (hr0:EnRow w A l) (hl:l.length≤1000) (nm:ByteArray) :
 Calls Tryz.prog 89 #[.slice A l.length c,.agg #[.int .i64 1,.string nm,.string ByteArray.empty,.int .i64 0]] w fun e w'=>∃ v,e=.returned v∧w'.ownsRow w.heap.size 137 2 v (turnP l (.gone nm)).length (encells (turnP l (.gone nm)))∧Below w.heap.size w w':=by
 have k0:=KS.new w 162 #[.int .i64 1,.string nm,.string ByteArray.empty,.int .i64 0]
 have kc:∀ W,KS w w.heap.size 162 #[.int .i64 1,.string nm,.string ByteArray.empty,.int .i64 0] W→W.cell? ⟨w.heap.size,0,none⟩=some (.int .i64 1)∧W.cell? ⟨w.heap.size,1,none⟩=some (.string nm)∧W.cell? ⟨w.heap.size,2,none⟩=some (.string ByteArray.empty):=fun W h=>⟨h.1.cell 0,h.1.cell 1,h.1.cell 2⟩
 go_enter Tryz.func89,Tryz.ntmps89
 go_wp2
 go_loopw [5,6] (fun out i wr=>ChgRel w #[.int .i64 1,.string nm,.string ByteArray.empty,.int .i64 0] (.gone nm) l out i wr) (fun _ i _=>l.length-(intOf i).toNat)
 case atStart=>exact ⟨0,none,0,Nat.zero_le _,rfl,rfl,World.ownsRow_nil _ _ _ _,k0⟩
 case round =>
  obtain ⟨j,A',c',hj,rfl,rfl,ho,hk⟩:=hrel
  obtain ⟨c0,c1,c2⟩:=kc _ hk
  by_cases hlt:j<l.length
  ·have d1:decide (j<l.length)=true:=by simpa using hlt
   obtain ⟨x,hx⟩:∃ x,l[j]?=some x:=⟨_,List.getElem?_eq_getElem hlt⟩
   obtain ⟨g,cur,rfl,hg,hcur⟩:=hr0 (by omega)
   have e0:wr.cell? ⟨g,j*2,none⟩=some (.string x.nm):=(hk.2.cell (p:=⟨g,j*2,none⟩) hg.lt).trans ((hg.cell _).trans (hcur _ _ ((en_at hx 0 (by omega)).trans rfl)))
   have e1:wr.cell? ⟨g,j*2+1,none⟩=some (.int .i64 x.id):=(hk.2.cell (p:=⟨g,j*2+1,none⟩) hg.lt).trans ((hg.cell _).trans (hcur _ _ ((en_at hx 1 (by omega)).trans rfl)))
   have hts:=flat_take_succ (c:=.gone nm) hx
   have hlen:=flat_take_len (.gone nm) l j
   obtain ⟨D,hD⟩:∃ D,(l.take j).flatMap (outE (.gone nm))=D:=⟨_,rfl⟩
   rw [hD] at hts ho hlen ⊢
   have HD:=Lib.hid hD
   have HTS:=Lib.hid hts
   clear hD hts hcur
   by_cases hn:x.nm=nm
   ·have d2:=tl_eq hn
    go_wp2
    go_quiet (fail)
    go_wp2
    go_quiet (fail)
    go_wp2
    go_roundw
    case rel =>
     refine ⟨j+1,A',c',by omega,by go_num,?_,?_,hk.drewN _⟩
     ·rw [HTS.out,outE,if_pos hn,List.append_nil]
     ·rw [HTS.out,outE,if_pos hn,List.append_nil];exact ho
    case measure=>simp [intOf];omega
   ·have d2:=tl_ne hn
    go_wp2
    go_quiet (fail)
    go_wp2
    go_quiet (fail)
    go_wp2_with (at_builtin;refine list_push TEn rfl rfl (w.heap.size+1) rfl (ho.alloc _) rfl (reads_blk (cs:=#[.string x.nm,.int .i64 x.id]) (blk_newH _ _ _ (by simp)) rfl) (en_one1 x) (by omega) (by have:=hk.2.size;have:=hk.lt;simp;omega) rfl (ys:=encells (D++[x])) (by rw [en_append];rfl) ?_;intro A2 c2 w2 ho2 hg2 hl2)
    go_roundw
    case rel =>
     have e2:outE (.gone nm) x=[x]:=if_neg hn
     refine ⟨j+1,A2,c2,by omega,by go_num,?_,?_,KS.grown (by repeat (first | exact hk | apply KS.drewN | apply KS.drew | apply KS.alloc)) hg2 (fun k e=>?_)⟩
     ·rw [HTS.out,e2,List.length_append];rfl
     ·rw [HTS.out,e2,List.length_append];exact ho2
     ·have:=(ho.lt k e).1
      omega
    case measure=>simp [intOf];omega
  ·obtain rfl:j=l.length:=by omega
   have d1:decide (l.length<l.length)=false:=by simp
   rw [List.take_length,←turn_flat_gone] at ho ⊢
   go_wp2
   go_ret
   exact ⟨_,rfl,own_le ho (by omega),hk.2⟩
set_option maxHeartbeats 4000000 in
set_option maxRecDepth 100000 in
theorem RChange_moved {A:Option Addr} {c:Nat} {l:List En} (hr0:EnRow w A l) (hl:l.length≤1000) (nm to:ByteArray) (hab:nm≠to) :
 Calls Tryz.prog 89 #[.slice A l.length c,.agg #[.int .i64 2,.string nm,.string to,.int .i64 0]] w fun e w'=>∃ v,e=.returned v∧w'.ownsRow w.heap.size 137 2 v (turnP l (.moved nm to)).length (encells (turnP l (.moved nm to)))∧Below w.heap.size w w':=by
 have k0:=KS.new w 162 #[.int .i64 2,.string nm,.string to,.int .i64 0]
 have kc:∀ W,KS w w.heap.size 162 #[.int .i64 2,.string nm,.string to,.int .i64 0] W→W.cell? ⟨w.heap.size,0,none⟩=some (.int .i64 2)∧W.cell? ⟨w.heap.size,1,none⟩=some (.string nm)∧W.cell? ⟨w.heap.size,2,none⟩=some (.string to):=fun W h=>⟨h.1.cell 0,h.1.cell 1,h.1.cell 2⟩
 have dab:=tl_ne hab
 go_enter Tryz.func89,Tryz.ntmps89
 go_wp2
 go_loopw [5,6] (fun out i wr=>ChgRel w #[.int .i64 2,.string nm,.string to,.int .i64 0] (.moved nm to) l out i wr) (fun _ i _=>l.length-(intOf i).toNat)
 case atStart=>exact ⟨0,none,0,Nat.zero_le _,rfl,rfl,World.ownsRow_nil _ _ _ _,k0⟩
 case round =>
  obtain ⟨j,A',c',hj,rfl,rfl,ho,hk⟩:=hrel
  obtain ⟨c0,c1,c2⟩:=kc _ hk
  by_cases hlt:j<l.length
  ·have d1:decide (j<l.length)=true:=by simpa using hlt
   obtain ⟨x,hx⟩:∃ x,l[j]?=some x:=⟨_,List.getElem?_eq_getElem hlt⟩
   obtain ⟨g,cur,rfl,hg,hcur⟩:=hr0 (by omega)
   have e0:wr.cell? ⟨g,j*2,none⟩=some (.string x.nm):=(hk.2.cell (p:=⟨g,j*2,none⟩) hg.lt).trans ((hg.cell _).trans (hcur _ _ ((en_at hx 0 (by omega)).trans rfl)))
   have e1:wr.cell? ⟨g,j*2+1,none⟩=some (.int .i64 x.id):=(hk.2.cell (p:=⟨g,j*2+1,none⟩) hg.lt).trans ((hg.cell _).trans (hcur _ _ ((en_at hx 1 (by omega)).trans rfl)))
   have ks2:∀ W,KS w w.heap.size 162 #[.int .i64 2,.string nm,.string to,.int .i64 0] W→W.cell? ⟨w.heap.size,2,none⟩=some (.string to)∧W.cell? ⟨g,j*2+1,none⟩=some (.int .i64 x.id):=fun W h=>⟨h.1.cell 2,(h.2.cell (p:=⟨g,j*2+1,none⟩) hg.lt).trans ((hg.cell _).trans (hcur _ _ ((en_at hx 1 (by omega)).trans rfl)))⟩
   have hts:=flat_take_succ (c:=.moved nm to) hx
   have hlen:=flat_take_len (.moved nm to) l j
   obtain ⟨D,hD⟩:∃ D,(l.take j).flatMap (outE (.moved nm to))=D:=⟨_,rfl⟩
   rw [hD] at hts ho hlen ⊢
   have HD:=Lib.hid hD
   have HTS:=Lib.hid hts
   clear hD hts hcur
   by_cases hn:x.nm=nm
   ·have d2:=tl_eq hn
    go_wp2
    go_quiet (fail)
    go_wp2_with fail
    go_region_held3 (fun W=>W.cell? ⟨w.heap.size,2,none⟩=some (.string to)∧W.cell? ⟨g,j*2+1,none⟩=some (.int .i64 x.id))
     (exact ks2 _ (by repeat (first | exact hk | exact hk2 | apply KS.drewN | apply KS.drew | apply KS.alloc)))
     ((refine step_push TEn (by rfl) (by rfl) (w.heap.size+1) (by rfl) (by first | exact ho.alloc _) (by rfl) (reads_blk (cs:=#[.string to,.int .i64 x.id]) (by first | (with_reducible exact blk_newH _ _ _ (by simp)) | (with_reducible exact blk_drew (blk_newH _ _ _ (by simp)))) rfl) (en_one1 ⟨to,x.id⟩) (by omega) (by have:=hk.2.size;have:=hk.lt;simp;omega) rfl (ys:=encells (D++[⟨to,x.id⟩])) (by rw [en_append];rfl) ?_;intro A2 c2 w2 ho2 hg2 hl2;have hk2:KS w w.heap.size 162 #[.int .i64 2,.string nm,.string to,.int .i64 0] w2:=KS.grown (by repeat (first | exact hk | apply KS.drewN | apply KS.drew | apply KS.alloc)) hg2 (fun k e=>by have:=(ho.lt k e).1;omega)))
    go_wp2
    go_roundw
    case rel =>
     have e2:outE (.moved nm to) x=[⟨to,x.id⟩]:=if_pos hn
     refine ⟨j+1,A2,c2,by omega,by go_num,?_,?_,hk2⟩
     ·rw [HTS.out,e2,List.length_append];rfl
     ·rw [HTS.out,e2,List.length_append];exact ho2
    case measure=>simp [intOf];omega
   ·have d2:=tl_ne hn
    by_cases hn2:x.nm=to
    ·have d3:=tl_eq hn2
     have HN2:=Lib.hid hn2
     clear hn2
     go_wp2
     go_quiet (fail)
     go_wp2
     go_quiet (fail)
     go_wp2
     go_roundw
     case rel =>
      have e2:outE (.moved nm to) x=[]:=(if_neg hn).trans (if_pos HN2.out)
      refine ⟨j+1,A',c',by omega,by go_num,?_,?_,hk.drewN _⟩
      ·rw [HTS.out,e2,List.append_nil]
      ·rw [HTS.out,e2,List.append_nil];exact ho
     case measure=>simp [intOf];omega
    ·have d3:=tl_ne hn2
     go_wp2
     go_quiet (fail)
     go_wp2
     go_quiet (fail)
     go_wp2_with (at_builtin;refine list_push TEn rfl rfl (w.heap.size+1) rfl (ho.alloc _) rfl (reads_blk (cs:=#[.string x.nm,.int .i64 x.id]) (blk_newH _ _ _ (by simp)) rfl) (en_one1 x) (by omega) (by have:=hk.2.size;have:=hk.lt;simp;omega) rfl (ys:=encells (D++[x])) (by rw [en_append];rfl) ?_;intro A2 c2 w2 ho2 hg2 hl2)
     go_roundw
     case rel =>
      have e2:outE (.moved nm to) x=[x]:=(if_neg hn).trans (if_neg hn2)
      refine ⟨j+1,A2,c2,by omega,by go_num,?_,?_,KS.grown (by repeat (first | exact hk | apply KS.drewN | apply KS.drew | apply KS.alloc)) hg2 (fun k e=>?_)⟩
      ·rw [HTS.out,e2,List.length_append];rfl
      ·rw [HTS.out,e2,List.length_append];exact ho2
      ·have:=(ho.lt k e).1
       omega
     case measure=>simp [intOf];omega
  ·obtain rfl:j=l.length:=by omega
   have d1:decide (l.length<l.length)=false:=by simp
   rw [List.take_length,←turn_flat_moved hab] at ho ⊢
   go_wp2
   go_ret
   exact ⟨_,rfl,own_le ho (by omega),hk.2⟩
set_option maxHeartbeats 4000000 in
set_option maxRecDepth 100000 in
theorem RChange_same {A:Option Addr} {c n:Nat} (nm:ByteArray) :
 Calls Tryz.prog 89 #[.slice A n c,.agg #[.int .i64 2,.string nm,.string nm,.int .i64 0]] w fun e w'=>e=.returned (.slice A n c)∧Below w.heap.size w w':=by
 have k0:=KS.new w 162 #[.int .i64 2,.string nm,.string nm,.int .i64 0]
 have dab:=tl_eq (rfl:nm=nm)
 go_enter Tryz.func89,Tryz.ntmps89
 go_wp2
 go_ret
 exact ⟨rfl,k0.2⟩
end
end
section
open Go.RowKit
def Ch.k:Ch→Int
 | .new _ _=>0
 | .gone _=>1
 | .moved _ _=>2
def Ch.a:Ch→ByteArray
 | .new nm _=>nm
 | .gone nm=>nm
 | .moved a _=>a
def Ch.b:Ch→ByteArray
 | .new _ _=>ByteArray.empty
 | .gone _=>ByteArray.empty
 | .moved _ b=>b
def Ch.i:Ch→Nat
 | .new _ i=>i
 | _=>0
theorem Ch.cells_eq (c:Ch):c.cells=[.int .i64 c.k,.string c.a,.string c.b,.int .i64 c.i]:=by cases c <;> rfl
section
variable {X X':Nat→Prop} {w w' w1 w2 w3:World} {rb:Nat} {vd vc vf vw:Value} {V:Nat→Value} {L:Nat→List (ByteArray × Value)} {W:List (PW × Value)} {p:DP}
theorem RowX.more {e size n:Nat} {v:Value} {xs:List Value} (h:RowX X w e size v n xs) (hb:Below w.heap.size w w'):RowX (More X w) w' e size v n xs :=
 h.keep (fun k cs hx _ hk=>(hb.block k (Array.getElem?_eq_some_iff.1 hk).1).trans hk) (fun _ h=>.inl h)
theorem RChange_any {A:Option Addr} {c:Nat} {l:List En} (h:RowX X w 137 2 (.slice A l.length c) l.length (encells l)) (hl:l.length≤1000) (x:Ch) :
 Calls Tryz.prog 89 #[.slice A l.length c,.agg #[.int .i64 x.k,.string x.a,.string x.b,.int .i64 x.i]] w fun e w'=>∃ v,e=.returned v∧RowX (More X w) w' 137 2 v (turnP l x).length (encells (turnP l x))∧Below w.heap.size w w':=by
 have hr0:=EnRow.of_row h
 have fin:∀ {v:Value} {n:Nat} {xs:List Value} {w':World},w'.ownsRow w.heap.size 137 2 v n xs→RowX (More X w) w' 137 2 v n xs:=fun ho=>RowX.of_own ho (fun k hk=>.inr (ho.lt k hk).1)
 cases x with
 | new nm i =>
  refine (RChange_new hr0 hl nm i).mono ?_
  rintro e w' ⟨v,rfl,ho,hb⟩
  refine ⟨v,rfl,?_,hb⟩
  have:(turnP l (.new nm i)).length=l.length+1:=by simp [turnP]
  rw [this]
  exact fin ho
 | gone nm =>
  refine (RChange_gone hr0 hl nm).mono ?_
  rintro e w' ⟨v,rfl,ho,hb⟩
  exact ⟨v,rfl,fin ho,hb⟩
 | moved a b =>
  by_cases hab:a=b
  ·subst hab
   refine (RChange_same (n:=l.length) a).mono ?_
   rintro e w' ⟨rfl,hb⟩
   have:turnP l (.moved a a)=l:=by simp [turnP]
   rw [this]
   exact ⟨_,rfl,h.more hb,hb⟩
  ·refine (RChange_moved hr0 hl a b hab).mono ?_
   rintro e w' ⟨v,rfl,ho,hb⟩
   exact ⟨v,rfl,fin ho,hb⟩
def NowRel (X:Nat→Prop) (w:World) (p:DP) (out i:Value) (wr:World):Prop :=
 ∃ j A c,j≤p.chs.length∧i=.int .i64 j∧out=.slice A ((p.chs.take j).foldl turnP p.dir).length c∧RowX (More X w) wr 137 2 out ((p.chs.take j).foldl turnP p.dir).length (encells ((p.chs.take j).foldl turnP p.dir))∧Below w.heap.size w wr
set_option maxHeartbeats 4000000 in
set_option maxRecDepth 100000 in
theorem RNow_any (h:RefV X w rb vd vc vf vw V L W p) (hw:WF p) (hc:p.chs.length≤1000) :
 Calls Tryz.prog 86 #[.pointer (some ⟨rb,0,none⟩)] w fun e w'=>∃ v,e=.returned v∧RowX (More X w) w' 137 2 v p.now.length (encells p.now)∧Below w.heap.size w w':=by
 obtain ⟨Ad,cd,rfl⟩:=h.dir.form
 obtain ⟨Ac,cc,rfl⟩:=h.chs.form
 have e1:w.cell? ⟨rb,1,none⟩=some (.slice Ad p.dir.length cd):=h.blk.cell 1
 have e2:w.cell? ⟨rb,2,none⟩=some (.slice Ac p.chs.length cc):=h.blk.cell 2
 go_enter Tryz.func86,Tryz.ntmps86
 go_wp2
 go_loopw [3,4] (fun out i wr=>NowRel X w p out i wr) (fun _ i _=>p.chs.length-(intOf i).toNat)
 case atStart=>exact ⟨0,Ad,cd,Nat.zero_le _,rfl,rfl,h.dir.keep (fun _ _ _ _ h=>h) (fun _ h=>.inl h),Below.refl _ _⟩
 case round =>
  obtain ⟨j,A,c,hj,rfl,rfl,ho,hb⟩:=hrel
  have k2:wr.cell? ⟨rb,2,none⟩=some (.slice Ac p.chs.length cc):=(hb.cell (p:=⟨rb,2,none⟩) h.blk.lt).trans e2
  by_cases hlt:j<p.chs.length
  ·have d1:decide (j<p.chs.length)=true:=by simpa using hlt
   obtain ⟨x,hx⟩:∃ x,p.chs[j]?=some x:=⟨_,List.getElem?_eq_getElem hlt⟩
   obtain ⟨g,c',cur,hv,hXg,hg,hsz,hcur⟩:=h.chs.row (by omega)
   obtain ⟨rfl,_,rfl⟩:Ac=some ⟨g,0,none⟩∧p.chs.length=p.chs.length∧cc=c':=by simpa using hv
   have hcell:∀ i u,x.cells[i]?=some u→i<4→wr.cell? ⟨g,j*4+i,none⟩=some u:=fun i u hu hi=>(hb.cell (p:=⟨g,j*4+i,none⟩) hg.lt).trans ((hg.cell _).trans (hcur _ _ ((ch_at hx i hi).trans hu)))
   have q0:wr.cell? ⟨g,j*4,none⟩=some (.int .i64 x.k):=hcell 0 _ (by rw [Ch.cells_eq];rfl) (by omega)
   have q1:wr.cell? ⟨g,j*4+1,none⟩=some (.string x.a):=hcell 1 _ (by rw [Ch.cells_eq];rfl) (by omega)
   have q2:wr.cell? ⟨g,j*4+2,none⟩=some (.string x.b):=hcell 2 _ (by rw [Ch.cells_eq];rfl) (by omega)
   have q3:wr.cell? ⟨g,j*4+3,none⟩=some (.int .i64 x.i):=hcell 3 _ (by rw [Ch.cells_eq];rfl) (by omega)
   have hok:=(hw.dir.fold (okChs_take j hw.chs)).len
   have hts:(p.chs.take (j+1)).foldl turnP p.dir=turnP ((p.chs.take j).foldl turnP p.dir) x:=by rw [List.take_add_one,hx,List.foldl_append];rfl
   have HTS:=Lib.hid hts
   clear hts hcell hcur
   obtain ⟨D,hD⟩:∃ D,(p.chs.take j).foldl turnP p.dir=D:=⟨_,rfl⟩
   rw [hD] at ho hok ⊢
   have HD:=Lib.hid hD
   clear hD
   have hC:=RChange_any ho (by omega) x
   go_wp2_with (go_at_call 89;refine hC.mono ?_;rintro e w9 ⟨v,rfl,hr9,hb9⟩)
   go_roundw
   case rel =>
    obtain ⟨A9,c9,rfl⟩:=hr9.form
    refine ⟨j+1,A9,c9,by omega,by go_num,?_,?_,hb.trans (hb9.mono hb.size)⟩
    ·rw [HTS.out,HD.out]
    ·rw [HTS.out,HD.out]
     exact hr9.keep (fun _ _ _ _ h=>h) (fun k hk=>hk.elim id (fun h=>.inr (Nat.le_trans hb.size h)))
   case measure=>simp [intOf];omega
  ·obtain rfl:j=p.chs.length:=by omega
   have d1:decide (p.chs.length<p.chs.length)=false:=by simp
   rw [List.take_length] at ho ⊢
   go_wp2
   go_ret
   exact ⟨_,rfl,ho,hb⟩
theorem findP_at {nm:ByteArray}:∀ {l:List En} {k:Nat} {x:En},l[k]?=some x→x.nm=nm→(∀ (j:Nat) (y:En),j<k→l[j]?=some y→y.nm≠nm)→findP nm l=some x.id
 | [],k,x,h,_,_=>by simp at h
 | y::l,0,x,h,hx,_=>by
  simp at h;subst h
  rw [findP_cons,if_pos hx]
 | y::l,k+1,x,h,hx,hn=>by
  rw [findP_cons,if_neg (hn 0 y (by omega) rfl)]
  exact findP_at (l:=l) (k:=k) (by simpa using h) hx (fun j z hj hz=>hn (j+1) z (by omega) (by simpa using hz))
theorem findP_all {nm:ByteArray}:∀ {l:List En},(∀ (j:Nat) (y:En),l[j]?=some y→y.nm≠nm)→findP nm l=none
 | [],_=>rfl
 | y::l,h=>by
  rw [findP_cons,if_neg (h 0 y rfl)]
  exact findP_all (fun j z hz=>h (j+1) z (by simpa using hz))
set_option maxHeartbeats 4000000 in
set_option maxRecDepth 100000 in
theorem RId_any (h:RefV X w rb vd vc vf vw V L W p) (hw:WF p) (hc:p.chs.length≤1000) (nm:ByteArray) :
 Calls Tryz.prog 63 #[.pointer (some ⟨rb,0,none⟩),.string nm] w fun e w'=>e=.returned (.tuple #[.int .i64 ((findP nm p.now).getD 0),.bool (findP nm p.now).isSome])∧Below w.heap.size w w':=by
 have hN:=RNow_any h hw hc
 have hlen:=hw.now.len
 obtain ⟨D,hD⟩:∃ D,p.now=D:=⟨_,rfl⟩
 rw [hD] at hN hlen ⊢
 clear hD
 obtain ⟨r,hR⟩:∃ r,findP nm D=r:=⟨_,rfl⟩
 rw [hR]
 have HR:=Lib.hid hR
 clear hR
 go_enter Tryz.func63,Tryz.ntmps63
 go_wp2_with (go_at_call 86;refine hN.mono ?_;rintro e w1 ⟨v,rfl,hr,hb⟩;obtain ⟨A,c,rfl⟩:=hr.form)
 go_loopw [7] (fun i wr=>(∃ q,wr=w1.drewN q)∧∃ k:Nat,k≤D.length∧i=.int .i64 k∧∀ j y,j<k→D[j]?=some y→y.nm≠nm) (fun i _=>D.length-(intOf i).toNat)
 case atStart=>exact ⟨⟨0,rfl⟩,0,Nat.zero_le _,rfl,fun j y hj=>by omega⟩
 case round =>
  obtain ⟨⟨q,rfl⟩,k,hk,rfl,hall⟩:=hrel
  by_cases hlt:k<D.length
  ·have d1:decide (k<D.length)=true:=by simpa using hlt
   obtain ⟨x,hx⟩:∃ x,D[k]?=some x:=⟨_,List.getElem?_eq_getElem hlt⟩
   obtain ⟨g,cur,rfl,hg,hcur⟩:=EnRow.of_row hr (by omega)
   have e0:w1.cell? ⟨g,k*2,none⟩=some (.string x.nm):=(hg.cell _).trans (hcur _ _ ((en_at hx 0 (by omega)).trans rfl))
   have e1:w1.cell? ⟨g,k*2+1,none⟩=some (.int .i64 x.id):=(hg.cell _).trans (hcur _ _ ((en_at hx 1 (by omega)).trans rfl))
   by_cases he:x.nm=nm
   ·have hf:=findP_at hx he hall
    have d2:=tl_eq he
    obtain rfl:r=some x.id:=HR.out.symm.trans hf
    clear hf hall hx he
    go_wp2
    try go_quiet (fail)
    try go_wp2
    go_ret2
    exact ⟨rfl,⟨hb.os,hb.tape,hb.output,hb.size,hb.block⟩⟩
   ·have d2:=tl_ne he
    have hall':∀ j y,j<k+1→D[j]?=some y→y.nm≠nm:=fun j y hj hy=>by
     by_cases e:j=k
     ·subst e;rw [hx] at hy;cases hy;exact he
     ·exact hall j y (by omega) hy
    have HA:=Lib.hid hall'
    clear hall hall' hx he
    go_wp2
    go_roundw
    case rel=>exact ⟨⟨_,rfl⟩,k+1,by omega,by go_num,HA.out⟩
    case measure=>simp [intOf];omega
  ·have d1:decide (k<D.length)=false:=by simpa using hlt
   have hf:findP nm D=none:=findP_all (fun j y hy=>hall j y (by have:=(List.getElem?_eq_some_iff.1 hy).1;omega) hy)
   obtain rfl:r=none:=HR.out.symm.trans hf
   clear hf hall
   go_wp2
   try go_quiet (fail)
   try go_wp2
   go_ret2
   exact ⟨rfl,⟨hb.os,hb.tape,hb.output,hb.size,hb.block⟩⟩
end
end
section
open Go.RowKit
structure RefN (X:Nat→Prop) (w:World) (rb:Nat) (vd vc vf vw:Value) (V:Nat→Value) (L:Nat→List (ByteArray × Value)) (W:List (PW × Value)) (nx:Int) (p:DP):Prop where
 blk:Blk w rb 72 #[.int .i64 p.room,vd,vc,vf,vw,.int .i64 nx,.bool p.armed,.int .i64 p.after,.int .i64 p.code]
 inX:X rb
 dir:RowX X w 137 2 vd p.dir.length (encells p.dir)
 chs:RowX X w 162 4 vc p.chs.length (chcells p.chs)
 fl:RowX X w 111 2 vf p.files.length (flcells V p.files.length)
 wrs:RowX X w 165 3 vw p.wrs.length (pwcells W)
 wp:p.wrs=W.map (·.1)
 ws:∀ y∈W,SecW w y.2 y.1.s
 lp:∀ i,i<p.files.length→p.file i=(L i).map (·.1)
 ls:∀ i,i<p.files.length→∀ y∈L i,SecW w y.2 y.1
 row:∀ i,i<p.files.length→RowX X w 36 1 (V i) (L i).length ((L i).map (·.2))
 inj:∀ i j k,i<p.files.length→j<p.files.length→(V i).ownBlock=some k→(V j).ownBlock=some k→i=j
section
variable {X X':Nat→Prop} {w w' w1 w2 w3:World} {rb:Nat} {vd vc vf vw:Value} {V:Nat→Value} {L:Nat→List (ByteArray × Value)} {W:List (PW × Value)} {nx:Int} {p:DP}
theorem RefV.n (h:RefV X w rb vd vc vf vw V L W p):RefN X w rb vd vc vf vw V L W p.files.length p:=⟨h.blk,h.inX,h.dir,h.chs,h.fl,h.wrs,h.wp,h.ws,h.lp,h.ls,h.row,h.inj⟩
theorem RefN.v (h:RefN X w rb vd vc vf vw V L W nx p) (e:nx=p.files.length):RefV X w rb vd vc vf vw V L W p:=by
 subst e
 exact ⟨h.blk,h.inX,h.dir,h.chs,h.fl,h.wrs,h.wp,h.ws,h.lp,h.ls,h.row,h.inj⟩
def RTx (e t:Nat):Prop:=RT t∧t≠e
theorem rt_disk:RT 72:=.inl rfl
theorem rt_en:RT 137:=.inr (.inl rfl)
theorem rt_ch:RT 162:=.inr (.inr (.inl rfl))
theorem rt_fl:RT 111:=.inr (.inr (.inr (.inl rfl)))
theorem rt_wr:RT 165:=.inr (.inr (.inr (.inr (.inl rfl))))
theorem rt_ss:RT 36:=.inr (.inr (.inr (.inr (.inr rfl))))
theorem RowX.same {T:Nat→Prop} {e size n:Nat} {v:Value} {xs:List Value} (h:RowX X w e size v n xs) (hs:Same T X w w') (ht:T e) (hX:∀ k,X k→X' k):RowX X' w' e size v n xs :=
 h.keep (fun k cs hx _ hk=>hs k cs _ ht hx hk) hX
theorem RowX.farset {e size n g o:Nat} {v u:Value} {xs:List Value} (h:RowX X w e size v n xs) {t:TypeId} {cs:Array Value} (hb:Blk w g t cs) (he:t≠e):RowX X (w.setCell ⟨g,o,none⟩ u) e size v n xs:=row_set hb he h
theorem kb_set {g o:Nat} {u:Value} {t:TypeId} {cs:Array Value} (hb:Blk w g t cs) (he:t≠5):KB w (w.setCell ⟨g,o,none⟩ u):=fun k ks hk=>(Below.heap_setCell _ _ _ _ (fun e=>by
 have e':k=g:=e
 subst e'
 unfold Blk at hb
 rw [hb] at hk
 cases hk
 exact he rfl)).trans hk
theorem kb_grown {e size n:Nat} {v:Value} {xs:List Value} (hr:RowX X w e size v n xs) (hg:w.grownBy w3 v.ownBlock) (he:e≠5):KB w w3:=fun k cs hk=>(hg.block k (Array.getElem?_eq_some_iff.1 hk).1 (fun e2=>by
 obtain ⟨c2,h2⟩:=hr.block e2.symm
 rw [hk] at h2
 cases h2
 exact he rfl)).trans hk
theorem RefN.keep (h:RefN X w rb vd vc vf vw V L W nx p) (hX:∀ k,X k→X' k) (hs:Same RT X w w') (hk:KB w w'):RefN X' w' rb vd vc vf vw V L W nx p :=
 ⟨hs rb _ _ rt_disk h.inX h.blk,hX _ h.inX,h.dir.same hs rt_en hX,h.chs.same hs rt_ch hX,h.fl.same hs rt_fl hX,h.wrs.same hs rt_wr hX,h.wp,fun y hy=>(h.ws y hy).keep hk,h.lp,
  fun i hi y hy=>(h.ls i hi y hy).keep hk,fun i hi=>(h.row i hi).same hs rt_ss hX,h.inj⟩
theorem RefN.below (h:RefN X w rb vd vc vf vw V L W nx p) (hb:Below w.heap.size w w'):RefN X w' rb vd vc vf vw V L W nx p:=h.keep (fun _ h=>h) (Same.of_below hb) (KB.of_below hb)
theorem RefN.setNx (h:RefN X w rb vd vc vf vw V L W nx p) (k:Int):RefN X (w.setCell ⟨rb,5,none⟩ (.int .i64 k)) rb vd vc vf vw V L W k p:=by
 have hk:KB w (w.setCell ⟨rb,5,none⟩ (.int .i64 k)):=kb_set h.blk (by decide)
 exact ⟨by simpa using h.blk.set_ 5 (.int .i64 k),h.inX,h.dir.farset h.blk (by decide),h.chs.farset h.blk (by decide),h.fl.farset h.blk (by decide),h.wrs.farset h.blk (by decide),h.wp,fun y hy=>(h.ws y hy).keep hk,h.lp,fun i hi y hy=>(h.ls i hi y hy).keep hk,fun i hi=>(h.row i hi).farset h.blk (by decide),h.inj⟩
theorem RefN.pushCh (h:RefN X w rb vd vc vf vw V L W nx p) (hX:∀ k,X k→X' k) {v':Value} {l':List Ch} (hg:w.grownBy w3 vc.ownBlock) (hr:RowX X' w3 162 4 v' l'.length (chcells l')) :
 RefN X' (w3.setCell ⟨rb,2,none⟩ v') rb vd v' vf vw V L W nx {p with chs:=l'}:=by
 have hs:Same (RTx 162) X w w3:=same_grown h.chs hg (fun e=>e.2 rfl)
 have hk:=kb_grown h.chs hg (by decide)
 have hb3:=hs rb _ _ ⟨rt_disk,by decide⟩ h.inX h.blk
 have hk2:=hk.trans (kb_set (o:=2) (u:=v') hb3 (by decide))
 exact ⟨by simpa using (show Blk w3 rb 72 _ from hb3).set_ 2 v',hX _ h.inX,(h.dir.same hs ⟨rt_en,by decide⟩ hX).farset hb3 (by decide),hr.farset hb3 (by decide),(h.fl.same hs ⟨rt_fl,by decide⟩ hX).farset hb3 (by decide),(h.wrs.same hs ⟨rt_wr,by decide⟩ hX).farset hb3 (by decide),h.wp,fun y hy=>(h.ws y hy).keep hk2,h.lp,fun i hi y hy=>(h.ls i hi y hy).keep hk2,fun i hi=>((h.row i hi).same hs ⟨rt_ss,by decide⟩ hX).farset hb3 (by decide),h.inj⟩
theorem RefN.pushWr (h:RefN X w rb vd vc vf vw V L W nx p) (hX:∀ k,X k→X' k) {v':Value} {W':List (PW × Value)} (hg:w.grownBy w3 vw.ownBlock) (hr:RowX X' w3 165 3 v' W'.length (pwcells W')) (hws:∀ y∈W',SecW w y.2 y.1.s) :
 RefN X' (w3.setCell ⟨rb,4,none⟩ v') rb vd vc vf v' V L W' nx {p with wrs:=W'.map (·.1)}:=by
 have hs:Same (RTx 165) X w w3:=same_grown h.wrs hg (fun e=>e.2 rfl)
 have hk:=kb_grown h.wrs hg (by decide)
 have hb3:=hs rb _ _ ⟨rt_disk,by decide⟩ h.inX h.blk
 have hk2:=hk.trans (kb_set (o:=4) (u:=v') hb3 (by decide))
 refine ⟨by simpa using (show Blk w3 rb 72 _ from hb3).set_ 4 v',hX _ h.inX,(h.dir.same hs ⟨rt_en,by decide⟩ hX).farset hb3 (by decide),(h.chs.same hs ⟨rt_ch,by decide⟩ hX).farset hb3 (by decide),(h.fl.same hs ⟨rt_fl,by decide⟩ hX).farset hb3 (by decide),?_,rfl,fun y hy=>(hws y hy).keep hk2,h.lp,fun i hi y hy=>(h.ls i hi y hy).keep hk2,fun i hi=>((h.row i hi).same hs ⟨rt_ss,by decide⟩ hX).farset hb3 (by decide),h.inj⟩
 rw [List.length_map]
 exact hr.farset hb3 (by decide)
theorem RefN.pushFl (h:RefN X w rb vd vc vf vw V L W nx p) (hX:∀ k,X k→X' k) {v':Value} (hg:w.grownBy w3 vf.ownBlock) (hr:RowX X' w3 111 2 v' (p.files.length+1) (flcells V p.files.length++[.int .i64 p.files.length,.slice none 0 0])) :
 RefN X' (w3.setCell ⟨rb,3,none⟩ v') rb vd vc v' vw (updV V p.files.length (.slice none 0 0)) (fun i=>if i=p.files.length then [] else L i) W nx {p with files:=p.files++[[]]}:=by
 have hs:Same (RTx 111) X w w3:=same_grown h.fl hg (fun e=>e.2 rfl)
 have hk:=kb_grown h.fl hg (by decide)
 have hb3:=hs rb _ _ ⟨rt_disk,by decide⟩ h.inX h.blk
 have hk2:=hk.trans (kb_set (o:=3) (u:=v') hb3 (by decide))
 have hfile:∀ i,i<p.files.length→({p with files:=p.files++[[]]}:DP).file i=p.file i:=fun i hi=>by
  show (p.files++[[]]).getD i []=p.files.getD i []
  rw [List.getD_eq_getElem?_getD,List.getD_eq_getElem?_getD,List.getElem?_append_left hi]
 have hlt:∀ i,i<(p.files++[[]]).length→i<p.files.length∨i=p.files.length:=fun i hi=>by simp at hi;omega
 refine ⟨by simpa using (show Blk w3 rb 72 _ from hb3).set_ 3 v',hX _ h.inX,(h.dir.same hs ⟨rt_en,by decide⟩ hX).farset hb3 (by decide),(h.chs.same hs ⟨rt_ch,by decide⟩ hX).farset hb3 (by decide),?_,(h.wrs.same hs ⟨rt_wr,by decide⟩ hX).farset hb3 (by decide),h.wp,fun y hy=>(h.ws y hy).keep hk2,fun i hi=>?_,fun i hi y hy=>?_,fun i hi=>?_,fun i j k hi hj=>?_⟩
 ·have e:flcells (updV V p.files.length (.slice none 0 0)) (p.files.length+1)=flcells V p.files.length++[.int .i64 p.files.length,.slice none 0 0]:=by
   rw [fl_succ,fl_congr (V:=updV V p.files.length (.slice none 0 0)) (V':=V) (fun j hj=>by unfold updV;rw [if_neg (by omega)])]
   simp [flc,updV]
  show RowX X' _ 111 2 v' (p.files++[[]]).length (flcells _ (p.files++[[]]).length)
  rw [List.length_append,List.length_singleton,e]
  exact hr.farset hb3 (by decide)
 ·rcases hlt i hi with h1 | h1
  ·show _=(if i=p.files.length then [] else L i).map (·.1)
   rw [hfile i h1,if_neg (by omega)];exact h.lp i h1
  ·subst h1
   show (p.files++[[]]).getD p.files.length []=(if p.files.length=p.files.length then [] else L p.files.length).map (·.1)
   simp [List.getD_eq_getElem?_getD]
 ·have hy':y∈(if i=p.files.length then [] else L i):=hy
  rcases hlt i hi with h1 | h1
  ·rw [if_neg (by omega)] at hy'
   exact (h.ls i h1 y hy').keep hk2
  ·rw [if_pos h1] at hy';cases hy'
 ·show RowX X' _ 36 1 (updV V p.files.length (.slice none 0 0) i) (if i=p.files.length then [] else L i).length ((if i=p.files.length then [] else L i).map (·.2))
  unfold updV
  rcases hlt i hi with h1 | h1
  ·rw [if_neg (by omega),if_neg (by omega)]
   exact ((h.row i h1).same hs ⟨rt_ss,by decide⟩ hX).farset hb3 (by decide)
  ·rw [if_pos h1,if_pos h1];exact RowX.nil
 ·show (updV V p.files.length (.slice none 0 0) i).ownBlock=some k→(updV V p.files.length (.slice none 0 0) j).ownBlock=some k→i=j
  unfold updV
  rcases hlt i hi with h1 | h1 <;> rcases hlt j hj with h2 | h2
  ·rw [if_neg (by omega),if_neg (by omega)];exact h.inj i j k h1 h2
  ·rw [if_pos h2];intro _ e;cases e
  ·rw [if_pos h1];intro e;cases e
  ·intros;omega
end
def RD (X:Nat→Prop) (w:World) (rb:Nat) (p:DP):Prop:=∃ vd vc vf vw V L W,RefV X w rb vd vc vf vw V L W p
def RL (X:Nat→Prop) (w:World) (rb:Nat) (p:DP) (w':World):Prop:=RD (More X w) w' rb p∧Fr X w w'
structure RA (X:Nat→Prop) (w:World) (rb:Nat) (p:DP):Prop where
 rd:RD X w rb p
 wf:WF p
 lt:∀ k,X k→k<w.heap.size
 nb:∀ k cs,X k→w.heap[k]?≠some (.cells cs 5 (0,0))
 after:p.after≤9223372036854775807
 chs:p.chs.length≤1000
 wrs:p.wrs.length≤1000
 fls:p.files.length≤1000
section
variable {X X':Nat→Prop} {w w' w1 w2 w3:World} {rb:Nat} {vd vc vf vw:Value} {V:Nat→Value} {L:Nat→List (ByteArray × Value)} {W:List (PW × Value)} {nx:Int} {p:DP}
theorem RefV.step (h:RefV X w rb vd vc vf vw V L W p) (hN:RNear rb w w1) (hb:Below w1.heap.size w1 w2) {p':DP} (h1:RefV X w1 rb vd vc vf vw V L W p'):RL X w rb p' w2 :=
 ⟨⟨_,_,_,_,_,_,_,(h1.below hb).keep (fun _ h=>.inl h) Same.refl (KB.refl _)⟩,(hN.fr' h.inX).trans (Fr.of_below hb)⟩
theorem push_own {e size n:Nat} {v v':Value} {xs:List Value} (h:RowX X w e size v n xs) {n':Nat} {ys:List Value} {w2 w3:World} (hs:w.heap.size≤w2.heap.size) (ho:w3.ownsRow 0 e size v' n' ys) (hl:v'.ownBlock=v.ownBlock∨v'.ownBlock=some w2.heap.size):RowX (More X w) w3 e size v' n' ys :=
 ⟨ho,fun k hk=>by
  rcases hl with e | e
  ·rw [e] at hk;exact .inl (h.2 k hk)
  ·rw [e] at hk;cases hk;exact .inr hs⟩
end
end
end Go.Proofs.YtekajggjoeimoaaGreatDoor
