/- A part of the proof of DiskSaves. No condition of its own. -/
import Derived.Test.YtekajggjoeimoaaGreatDoorSn
import Derived.Lib.AppendStr
import Derived.RangeFuncLeaves
import Derived.RangeFuncFrom
import Derived.WalkKit
import Derived.OwnWalkIn
import Derived.TacticsInMore
import Derived.LoopNIn
import Derived.LoopIn
set_option linter.unusedVariables false
namespace Go.Proofs.YtekajggjoeimoaaGreatDoor
section
open Go.RowKit
section
variable {X:Nat→Prop} {w:World} {rb:Nat} {vd vc vf vw:Value} {V:Nat→Value} {L:Nat→List (ByteArray × Value)} {W:List (PW × Value)} {p:DP}
theorem pwc_one (h:∀ y∈W,SecW w y.2 y.1.s):∀ u∈pwcells W,u.oneCell'=true:=by
 intro u hu
 obtain ⟨y,hy,hu⟩:=List.mem_flatMap.1 hu
 obtain ⟨_,g,c,cur,e,_⟩:=h y hy
 exact wr_one y (by rw [e];rfl) u hu
theorem chc_one (l:List Ch):∀ u∈chcells l,u.oneCell'=true:=by
 intro u hu
 obtain ⟨y,hy,hu⟩:=List.mem_flatMap.1 hu
 exact ch_one y u hu
theorem cp_step {N rc:Nat} {w W w1:World} {cs:Array Value} {e size n c1:Nat} {A1:Option Addr} {xs:List Value} (o:Nat) (hN:N≤rc) (C:Blk W rc 72 cs) (hB:Below N w W) (hs:N≤W.heap.size) (he:72≠e)
 (hg:(W.alloc (.cells #[] e)).grownBy w1 (.slice (some ⟨W.heap.size,0,none⟩) 0 0:Value).ownBlock) (ho:w1.ownsRow N e size (.slice A1 n c1) n xs) :
 Blk w1 rc 72 cs∧Blk (w1.setCell ⟨rc,o,none⟩ (.slice A1 n c1)) rc 72 (cs.setIfInBounds o (.slice A1 n c1))∧Below N w (w1.setCell ⟨rc,o,none⟩ (.slice A1 n c1))∧N≤w1.heap.size∧RowX (fun k=>N≤k) (w1.setCell ⟨rc,o,none⟩ (.slice A1 n c1)) e size (.slice A1 n c1) n xs ∧
  ∀ (e' size' n':Nat) (v':Value) (xs':List Value),72≠e'→RowX (fun k=>N≤k) W e' size' v' n' xs'→RowX (fun k=>N≤k) (w1.setCell ⟨rc,o,none⟩ (.slice A1 n c1)) e' size' v' n' xs':=by
 have h0:=C.lt
 have C1:Blk w1 rc 72 cs:=blk_grown (C.alloc _) hg (by simp [Value.ownBlock];omega)
 have B1:Below N w w1:=(hB.alloc hs _).grown hg (by simp;omega) (fun k e=>by cases e;exact hs)
 refine ⟨C1,C1.set_ _ _,B1.setCell hN _,Nat.le_trans hs (by have:=hg.size;simp at this;omega),(RowX.of_own ho (fun k hk=>(ho.lt k hk).1)).farset C1 he,fun e' size' n' v' xs' he' hr=>?_⟩
 refine (hr.keep (fun k cs' _ hk h3=>?_) (fun _ h=>h)).farset C1 he'
 have hl:=hr.lt hk
 exact (hg.block k (by simp;omega) (by simp [Value.ownBlock];omega)).trans ((Below.heap_alloc _ _ _ hl).trans h3)
def XB (w W:World) (k:Nat):Prop:=w.heap.size≤k∧k<W.heap.size
def upTo (p:DP) (k:Nat):DP:={p with files:=p.files.take k}
theorem upTo_len {k:Nat} (h:k≤p.files.length):(upTo p k).files.length=k:=by unfold upTo;simp;omega
theorem upTo_succ {k:Nat} (h:k<p.files.length):({upTo p k with files:=(upTo p k).files++[p.file k]}:DP)=upTo p (k+1):=by
 unfold upTo DP.file
 rw [List.take_add_one,List.getD_eq_getElem?_getD,List.getElem?_eq_getElem h]
 rfl
theorem upTo_all:upTo p p.files.length=p:=by unfold upTo;rw [List.take_length]
theorem fls_one (k:Nat) (A:Option Addr) (n c:Nat):∀ u∈[Value.int .i64 k,.slice A n c],u.oneCell'=true:=by
 intro u hu
 simp only [List.mem_cons,List.not_mem_nil,or_false] at hu
 rcases hu with rfl | rfl <;> rfl
theorem sec_one {l:List (ByteArray × Value)} (h:∀ y∈l,SecW w y.2 y.1):∀ u∈l.map (·.2),u.oneCell'=true:=by
 intro u hu
 obtain ⟨y,hy,rfl⟩:=List.mem_map.1 hu
 obtain ⟨_,g,c,cur,e,_⟩:=h y hy
 rw [e];rfl
set_option maxHeartbeats 4000000 in
set_option maxRecDepth 100000 in
theorem RCopy_any (hv:RefV X w rb vd vc vf vw V L W p) (hw:WF p) (hc:p.chs.length≤1000) (hww:p.wrs.length≤1000) (hfl:p.files.length≤1000):Calls Tryz.prog 16 #[.pointer (some ⟨rb,0,none⟩)] w fun e w'=>∃ nb,e=.returned (.pointer (some ⟨nb,0,none⟩))∧RD (fun k=>w.heap.size≤k) w' nb p∧Below w.heap.size w w':=by
 obtain ⟨Ad,cd,rfl⟩:=hv.dir.form
 obtain ⟨Ac,cc,rfl⟩:=hv.chs.form
 obtain ⟨Af,cf,rfl⟩:=hv.fl.form
 obtain ⟨Aw,cw,rfl⟩:=hv.wrs.form
 have hd8:=hw.dir.len
 have b:=hv.blk
 have hrl:rb<w.heap.size:=b.lt
 have hb1:∀ cs,Below w.heap.size w (w.alloc (.cells cs 72)):=fun cs=>(Below.refl _ w).alloc (Nat.le_refl _) _
 have k0:w.cell? ⟨rb,0,none⟩=some (.int .i64 p.room):=b.cell 0
 have k1:w.cell? ⟨rb,1,none⟩=some (.slice Ad p.dir.length cd):=b.cell 1
 have k2:w.cell? ⟨rb,2,none⟩=some (.slice Ac p.chs.length cc):=b.cell 2
 have k3:w.cell? ⟨rb,3,none⟩=some (.slice Af p.files.length cf):=b.cell 3
 have k4:w.cell? ⟨rb,4,none⟩=some (.slice Aw p.wrs.length cw):=b.cell 4
 have k5:w.cell? ⟨rb,5,none⟩=some (.int .i64 p.files.length):=b.cell 5
 have k6:w.cell? ⟨rb,6,none⟩=some (.bool p.armed):=b.cell 6
 have k7:w.cell? ⟨rb,7,none⟩=some (.int .i64 p.after):=b.cell 7
 have k8:w.cell? ⟨rb,8,none⟩=some (.int .i64 p.code):=b.cell 8
 have HV:=Lib.hid hv
 have C0:=Blk.new w 72 #[.int .i64 p.room,.slice Ad p.dir.length cd,.slice Ac p.chs.length cc,.slice Af p.files.length cf,.slice Aw p.wrs.length cw,.int .i64 p.files.length,.bool p.armed,.int .i64 p.after,.int .i64 p.code]
 have B0:=hb1 #[.int .i64 p.room,.slice Ad p.dir.length cd,.slice Ac p.chs.length cc,.slice Af p.files.length cf,.slice Aw p.wrs.length cw,.int .i64 p.files.length,.bool p.armed,.int .i64 p.after,.int .i64 p.code]
 have m1:((w.alloc (.cells #[.int .i64 p.room,.slice Ad p.dir.length cd,.slice Ac p.chs.length cc,.slice Af p.files.length cf,.slice Aw p.wrs.length cw,.int .i64 p.files.length,.bool p.armed,.int .i64 p.after,.int .i64 p.code] 72)).alloc (.cells #[] 137)).cell? ⟨rb,1,none⟩=some (.slice Ad p.dir.length cd):=(hv.below (B0.alloc B0.size _)).blk.cell 1
 clear hv b hb1
 go_enter Tryz.func16,Tryz.ntmps16
 go_wp2_with (first
  | (at_builtin;refine list_push TEn rfl rfl w.heap.size rfl (own_emptyH _ _ _ (by simp) (by omega)) rfl ((HV.out.dir.reads rfl).below (B0.alloc B0.size _)) (en_one _) (by omega) (by simp;omega) (Nat.zero_add _) (List.nil_append _) ?_;intro A1 c1 w1 ho1 hg1 hl1;obtain ⟨C1',C1,B1,S1,R1,P1⟩:=cp_step 1 (Nat.le_refl _) C0 B0 B0.size (by decide) (by simpa using hg1) ho1;have z1:=C1'.cell 1;have y1:=C1'.frozen 1;have m2:((w1.setCell ⟨w.heap.size,1,none⟩ (.slice A1 p.dir.length c1)).alloc (.cells #[] 162)).cell? ⟨rb,2,none⟩=some (.slice Ac p.chs.length cc):=(HV.out.below (B1.alloc B1.size _)).blk.cell 2)
  | (at_builtin;refine list_push TCh rfl rfl w.heap.size rfl (own_emptyH _ _ _ (by simp [World.setCell]) S1) rfl ((HV.out.chs.reads rfl).below (B1.alloc B1.size _)) (chc_one _) (by omega) (by simp [World.setCell];omega) (Nat.zero_add _) (List.nil_append _) ?_;intro A2 c2 w2 ho2 hg2 hl2;obtain ⟨C2',C2,B2,S2,R2,P2⟩:=cp_step 2 (Nat.le_refl _) C1 B1 B1.size (by decide) (by simpa [World.setCell] using hg2) ho2;have z2:=C2'.cell 2;have y2:=C2'.frozen 2;have m3:((w2.setCell ⟨w.heap.size,2,none⟩ (.slice A2 p.chs.length c2)).alloc (.cells #[] 165)).cell? ⟨rb,4,none⟩=some (.slice Aw p.wrs.length cw):=(HV.out.below (B2.alloc B2.size _)).blk.cell 4)
  | (at_builtin;refine list_push TWr rfl rfl w.heap.size rfl (own_emptyH _ _ _ (by simp [World.setCell]) S2) rfl ((HV.out.wrs.reads rfl).below (B2.alloc B2.size _)) (pwc_one HV.out.ws) (by omega) (by simp [World.setCell];omega) (Nat.zero_add _) (List.nil_append _) ?_;intro A3 c3 w3 ho3 hg3 hl3;obtain ⟨C3',C3,B3,S3,R3,P3⟩:=cp_step 4 (Nat.le_refl _) C2 B2 B2.size (by decide) (by simpa [World.setCell] using hg3) ho3;have z3:=C3'.cell 4;have y3:=C3'.frozen 4;have z4:=C3.cell 3;have y4:=C3.frozen 3))
 have hN0:RefN (XB w ((w3.setCell ⟨w.heap.size,4,none⟩ (.slice A3 p.wrs.length c3)).setCell ⟨w.heap.size,3,none⟩ (.slice none 0 0))) ((w3.setCell ⟨w.heap.size,4,none⟩ (.slice A3 p.wrs.length c3)).setCell ⟨w.heap.size,3,none⟩ (.slice none 0 0)) w.heap.size (.slice A1 p.dir.length c1) (.slice A2 p.chs.length c2) (.slice none 0 0) (.slice A3 p.wrs.length c3) (fun _=>.slice none 0 0) L W p.files.length (upTo p 0):=by
  have hb:∀ {W0:World} {e size n:Nat} {v:Value} {xs:List Value},RowX (fun k=>w.heap.size≤k) W0 e size v n xs→RowX (XB w W0) W0 e size v n xs:=fun h=>⟨h.1,fun k hk=>⟨h.2 k hk,h.lt hk⟩⟩
  have hKB:KB w ((w3.setCell ⟨w.heap.size,4,none⟩ (.slice A3 p.wrs.length c3)).setCell ⟨w.heap.size,3,none⟩ (.slice none 0 0)):=KB.of_below (B3.setCell (Nat.le_refl _) _)
  have hbk:Blk ((w3.setCell ⟨w.heap.size,4,none⟩ (.slice A3 p.wrs.length c3)).setCell ⟨w.heap.size,3,none⟩ (.slice none 0 0)) w.heap.size 72 #[.int .i64 p.room,.slice A1 p.dir.length c1,.slice A2 p.chs.length c2,.slice none 0 0,.slice A3 p.wrs.length c3,.int .i64 p.files.length,.bool p.armed,.int .i64 p.after,.int .i64 p.code]:=by simpa using C3.set_ 3 (.slice none 0 0)
  refine ⟨hbk,⟨Nat.le_refl _,?_⟩,hb ((P3 _ _ _ _ _ (by decide) (P2 _ _ _ _ _ (by decide) R1)).farset C3 (by decide)),hb ((P3 _ _ _ _ _ (by decide) R2).farset C3 (by decide)),RowX.nil,hb (R3.farset C3 (by decide)),HV.out.wp,fun y hy=>(HV.out.ws y hy).keep hKB,fun i hi=>absurd hi (by simp [upTo]),fun i hi=>absurd hi (by simp [upTo]),fun i hi=>absurd hi (by simp [upTo]),fun i j k hi=>absurd hi (by simp [upTo])⟩
  have:=C3.lt
  simpa [World.setCell] using this
 have hBB:=B3.setCell (p:=⟨w.heap.size,3,none⟩) (Nat.le_refl _) (.slice none 0 0)
 clear z1 y1 z2 y2 z3 y3 z4 y4 m1 m2 m3 C0 C1 C2 C3 C1' C2' C3' B0 B1 B2 S1 S2 S3 R1 R2 R3 P1 P2 P3 ho1 ho2 ho3 hg1 hg2 hg3 hl1 hl2 hl3 k0 k1 k2 k4 k5 k6 k7 k8
 go_loopw [4] (fun i wr=>∃ k vf' V' L',k≤p.files.length∧i=.int .i64 k∧RefN (XB w wr) wr w.heap.size (.slice A1 p.dir.length c1) (.slice A2 p.chs.length c2) vf' (.slice A3 p.wrs.length c3) V' L' W p.files.length (upTo p k)∧Below w.heap.size w wr) (fun i _=>p.files.length-(intOf i).toNat)
 case atStart=>exact ⟨0,_,_,_,Nat.zero_le _,rfl,hN0,hBB⟩
 case round =>
  clear hN0 hBB B3
  obtain ⟨k,vf',V',L',hk,rfl,hN,hB⟩:=hrel
  obtain ⟨wo,rfl⟩:∃ wo,wo=wr:=⟨wr,rfl⟩
  have q3:wo.cell? ⟨rb,3,none⟩=some (.slice Af p.files.length cf):=(HV.out.below hB).blk.cell 3
  by_cases hlt:k<p.files.length
  ·have d1:decide (k<p.files.length)=true:=by simpa using hlt
   have hqk:=upTo_len hk
   obtain ⟨q,hq⟩:∃ q,upTo p k=q:=⟨_,rfl⟩
   have hqs:=upTo_succ hlt
   rw [hq] at hN hqk hqs
   obtain ⟨A',c',rfl⟩:=hN.fl.form
   obtain ⟨g,cf',A4,c4,hvf,hV,hgl,hXg,hcell⟩:=HV.out.file hlt
   simp only [Value.slice.injEq,true_and] at hvf
   obtain ⟨rfl,rfl⟩:=hvf
   have hlk:(L k).length=(p.file k).length:=by rw [HV.out.lp k hlt];simp
   have hlen:=hw.file_len k
   have hrow:=HV.out.row k hlt
   rw [hV,hlk] at hrow
   have hc3:wo.cell? ⟨w.heap.size,3,none⟩=some (.slice A' q.files.length c'):=hN.blk.cell 3
   obtain ⟨g0,g1⟩:=hcell wo hB
   have i0:(0:Int)≤(k:Int):=by omega
   have i1:(k:Int)<(p.files.length:Int):=by omega
   have HN:=Lib.hid hN
   have HB:=Lib.hid hB
   have hS:∀ W0,Below wo.heap.size wo W0→W0.cell? ⟨w.heap.size,3,none⟩=some (.slice A' q.files.length c')∧W0.cell? ⟨rb,3,none⟩=some (.slice (some ⟨g,0,none⟩) p.files.length cf)∧W0.cell? ⟨g,k*2,none⟩=some (.int .i64 k)∧W0.cell? ⟨g,k*2+1,none⟩=some (.slice A4 (p.file k).length c4):=fun W0 hb =>
    ⟨(HN.out.below hb).blk.cell 3,(HV.out.below (HB.out.trans (hb.mono HB.out.size))).blk.cell 3,(hcell W0 (HB.out.trans (hb.mono HB.out.size))).1,(hcell W0 (HB.out.trans (hb.mono HB.out.size))).2⟩
   have HS:=Lib.hid hS
   have HC:=Lib.hid hcell
   have HQ:=Lib.hid hqk
   clear hqk
   clear hS hcell hN hB
   go_wp2
   have hsS:=HS.out _ (Below.refl _ _)
   refine regionE 23 (fun W0=>W0.cell? ⟨w.heap.size,3,none⟩=some (.slice A' q.files.length c')∧W0.cell? ⟨rb,3,none⟩=some (.slice (some ⟨g,0,none⟩) p.files.length cf)∧W0.cell? ⟨g,k*2,none⟩=some (.int .i64 k)∧W0.cell? ⟨g,k*2+1,none⟩=some (.slice A4 (p.file k).length c4)) (by kernel_rfl) (by kernel_rfl) (by kernel_rfl) (by kernel_rfl) (by kernel_rfl) (hsS) (fun hHeld hTl=>?_)
   refine tkT 0 (v:=?_) hTl hHeld rfl ?_ (fun hTl=>?_);rotate_left
   ·intro w hSw;(try dsimp only at hSw);go_simp;all_goals with_reducible rfl
   try simp only [pT]
   refine tkT 1 (v:=?_) hTl hHeld rfl ?_ (fun hTl=>?_);rotate_left
   ·intro w hSw;(try dsimp only at hSw);go_simp;all_goals with_reducible rfl
   try simp only [pT]
   refine tkT 2 (v:=?_) hTl hHeld rfl ?_ (fun hTl=>?_);rotate_left
   ·intro w hSw;(try dsimp only at hSw);go_simp;all_goals with_reducible rfl
   try simp only [pT]
   refine tkT 3 (v:=?_) hTl hHeld rfl ?_ (fun hTl=>?_);rotate_left
   ·intro w hSw;(try dsimp only at hSw);go_simp;all_goals with_reducible rfl
   try simp only [pT]
   refine tkT 4 (v:=?_) hTl hHeld rfl ?_ (fun hTl=>?_);rotate_left
   ·intro w hSw;(try dsimp only at hSw);go_simp;all_goals with_reducible rfl
   try simp only [pT]
   refine tkT 5 (v:=?_) hTl hHeld rfl ?_ (fun hTl=>?_);rotate_left
   ·intro w hSw;(try dsimp only at hSw);go_simp;all_goals with_reducible rfl
   try simp only [pT]
   refine tkT 6 (v:=?_) hTl hHeld rfl ?_ (fun hTl=>?_);rotate_left
   ·intro w hSw;(try dsimp only at hSw);go_simp;all_goals with_reducible rfl
   try simp only [pT]
   refine tkT 7 (v:=?_) hTl hHeld rfl ?_ (fun hTl=>?_);rotate_left
   ·intro w hSw;(try dsimp only at hSw);go_simp;all_goals with_reducible rfl
   try simp only [pT]
   refine tkT 8 (v:=?_) hTl hHeld rfl ?_ (fun hTl=>?_);rotate_left
   ·intro w hSw;(try dsimp only at hSw);go_simp;all_goals with_reducible rfl
   try simp only [pT]
   refine tkT 9 (v:=?_) hTl hHeld rfl ?_ (fun hTl=>?_);rotate_left
   ·intro w hSw;(try dsimp only at hSw);go_simp;all_goals with_reducible rfl
   try simp only [pT]
   refine tkT 11 (v:=?_) hTl hHeld rfl ?_ (fun hTl=>?_);rotate_left
   ·intro w hSw;(try dsimp only at hSw);go_simp;all_goals with_reducible rfl
   try simp only [pT]
   refine tkT 12 (v:=?_) hTl hHeld rfl ?_ (fun hTl=>?_);rotate_left
   ·intro w hSw;(try dsimp only at hSw);go_simp;all_goals with_reducible rfl
   try simp only [pT]
   refine tkT 13 (v:=?_) hTl hHeld rfl ?_ (fun hTl=>?_);rotate_left
   ·intro w hSw;(try dsimp only at hSw);go_simp;all_goals with_reducible rfl
   try simp only [pT]
   refine tkT 14 (v:=?_) hTl hHeld rfl ?_ (fun hTl=>?_);rotate_left
   ·intro w hSw;(try dsimp only at hSw);go_simp;all_goals with_reducible rfl
   try simp only [pT]
   refine tkT 15 (v:=?_) hTl hHeld rfl ?_ (fun hTl=>?_);rotate_left
   ·intro w hSw;(try dsimp only at hSw);go_simp;all_goals with_reducible rfl
   try simp only [pT]
   refine tkT 16 (v:=?_) hTl hHeld rfl ?_ (fun hTl=>?_);rotate_left
   ·intro w hSw;(try dsimp only at hSw);go_simp;all_goals with_reducible rfl
   try simp only [pT]
   refine tkT 17 (v:=?_) hTl hHeld rfl ?_ (fun hTl=>?_);rotate_left
   ·intro w hSw;(try dsimp only at hSw);go_simp;all_goals with_reducible rfl
   try simp only [pT]
   refine tkT 18 (v:=?_) hTl hHeld rfl ?_ (fun hTl=>?_);rotate_left
   ·intro w hSw;(try dsimp only at hSw);go_simp;all_goals with_reducible rfl
   try simp only [pT]
   clear hTl
   refine oneE 10 rfl (by kernel_rfl) (fun K hK=>?_)
   go_simp
   refine hK.out _ _ (fun _=>HS.out _ ((Below.refl _ wo).alloc (Nat.le_refl _) _).drew) ?_
   clear hK K
   try simp only [pT]
   refine oneE 19 rfl (by kernel_rfl) (fun K hK=>?_)
   refine step_push TSS (by rfl) (by rfl) w.heap.size (by rfl) (own_emptyH wo 36 1 rfl HB.out.size) (by rfl) ((hrow.reads rfl).below (HB.out.alloc HB.out.size _).drew) (sec_one (HV.out.ls k hlt)) (by omega) (by have:=HB.out.size;simp;omega) (Nat.zero_add _) (List.nil_append _) ?_
   intro A5 c5 w5 ho5 hg5 hl5;have hB5:Below wo.heap.size wo w5:=((Below.refl _ wo).alloc (Nat.le_refl _) _).drew.grown hg5 (by simp) (fun k e=>by cases e;exact Nat.le_refl _)
   refine hK.out _ _ (fun _=>HS.out _ hB5) ?_
   clear hK K
   try simp only [pT]
   refine oneE 20 rfl (by kernel_rfl) (fun K hK=>?_)
   go_simp
   refine hK.out _ _ (fun _=>HS.out _ hB5) ?_
   clear hK K
   try simp only [pT]
   have hN5:=HN.out.below (hB5.alloc hB5.size (.cells #[.int .i64 k,.slice A5 (p.file k).length c5] 111))
   refine oneE 21 rfl (by kernel_rfl) (fun K hK=>?_)
   go_simp
   refine hK.out _ _ (fun _=>HS.out _ (hB5.alloc hB5.size _)) ?_
   clear hK K
   try simp only [pT]
   refine oneE 22 rfl (by kernel_rfl) (fun K hK=>?_)
   refine step_push TFl (by rfl) (by rfl) 0 (by rfl) hN5.fl.1 (by rfl) (reads_blk (cs:=#[.int .i64 k,.slice A5 (p.file k).length c5]) (Blk.new w5 _ _) rfl) (fls_one _ _ _ _) (by have:=HQ.out;omega) (Nat.zero_le _) rfl (ys:=flcells V' q.files.length++[.int .i64 k,.slice A5 (p.file k).length c5]) rfl ?_
   intro A6 c6 w6 ho6 hg6 hl6;have b6:=blk_grown hN5.blk hg6 (blk_apart hN5.blk hN5.fl (by decide)).symm;have z6:=b6.cell 3;have y6:=b6.frozen 3
   refine hK.out _ _ (fun _=>⟨b6.cell 3,((HV.out.below (HB.out.trans ((hB5.alloc hB5.size (.cells #[.int .i64 k,.slice A5 (p.file k).length c5] 111)).mono HB.out.size) |>.grown hg6 (by have:=hB5.size;have:=HB.out.size;simp;omega) (fun j hj=>(HN.out.fl.2 j hj).1))).blk.cell 3),HC.out _ (HB.out.trans ((hB5.alloc hB5.size (.cells #[.int .i64 k,.slice A5 (p.file k).length c5] 111)).mono HB.out.size) |>.grown hg6 (by have:=hB5.size;have:=HB.out.size;simp;omega) (fun j hj=>(HN.out.fl.2 j hj).1))⟩) ?_
   clear hK K
   try simp only [pT]
   refine oneE 23 rfl (by kernel_rfl) (fun K hK=>?_)
   go_simp
   refine hK.out _ _ (fun h=>absurd h (by decide)) ?_
   clear hK K
   try simp only [pT]
   refine oneE 24 rfl (by kernel_rfl) (fun K hK=>?_)
   go_simp
   refine hK.out _ _ (fun h=>absurd h (by decide)) ?_
   clear hK K
   try simp only [pT]
   refine doneE (by kernel_rfl) ?_ _
   have hqk:=HQ.out
   have hs5:=hB5.size
   have hs0:=HB.out.size
   have hs6:=hg6.size
   simp at hs6
   have B6:Below w.heap.size w w6:=(HB.out.trans ((hB5.alloc hB5.size (.cells #[.int .i64 k,.slice A5 (p.file k).length c5] 111)).mono HB.out.size)).grown hg6 (by simp;omega) (fun j hj=>(HN.out.fl.2 j hj).1)
   have hX:∀ j,XB w wo j→XB w (w6.setCell ⟨w.heap.size,3,none⟩ (.slice A6 (q.files.length+1) c6)) j:=fun j hj=>⟨hj.1,by have:=hj.2;simp [World.setCell];omega⟩
   have hN6:=hN5.pushRow (X':=XB w (w6.setCell ⟨w.heap.size,3,none⟩ (.slice A6 (q.files.length+1) c6))) hX (v:=.slice A5 (p.file k).length c5) (l:=L k) (f:=p.file k) (HV.out.lp k hlt) (fun y hy=>(HV.out.ls k hlt y hy).keep (KB.of_below (HB.out.trans ((hB5.alloc hB5.size _).mono HB.out.size)))) hg6
    (by
     rw [show (Value.int .i64 (q.files.length:Nat))=.int .i64 (k:Nat) by rw [hqk]]
     refine RowX.of_own ho6 (fun j hj=>⟨?_,by have:=(ho6.lt j hj).2;simpa [World.setCell] using this⟩)
     rcases hl6 with e | e
     ·rw [e] at hj;exact (HN.out.fl.2 j hj).1
     ·rw [e] at hj;cases hj;simp;omega)
    (by
     rw [hlk]
     exact RowX.of_own (ho5.alloc _) (fun j hj=>⟨(ho5.lt j hj).1,by have:=(ho5.lt j hj).2;simp [World.setCell];omega⟩))
    (fun j hj hx=>by
     have h2:=hx.2
     rcases hl5 with e | e <;> rw [e] at hj <;> cases hj <;> simp at h2 <;> omega)
   rw [hqs,hqk] at hN6
   have HEND:=Lib.hid (And.intro hN6 (B6.setCell (p:=⟨w.heap.size,3,none⟩) (Nat.le_refl _) (.slice A6 (k+1) c6)))
   clear hN6 B6
   go_wp2
   go_roundw
   case rel=>exact ⟨k+1,_,_,_,hlt,by go_num,HEND.out.1,HEND.out.2⟩
   case measure=>simp [intOf];omega
  ·obtain rfl:k=p.files.length:=by omega
   have d1:decide (p.files.length<p.files.length)=false:=by simp
   rw [upTo_all] at hN
   have hR:=hN.v rfl
   clear hN
   go_wp2
   go_ret
   exact ⟨_,rfl,⟨_,_,_,_,_,_,_,hR.keep (fun j hj=>hj.1) Same.refl (KB.refl _)⟩,hB⟩
theorem rd_copy (h:RA X w rb p):Calls Tryz.prog 16 #[.pointer (some ⟨rb,0,none⟩)] w fun e w'=>∃ nb,e=.returned (.pointer (some ⟨nb,0,none⟩))∧RD (fun k=>w.heap.size≤k) w' nb p∧Below w.heap.size w w':=by
 obtain ⟨⟨vd,vc,vf,vw,V,L,W,hv⟩,hw,hlt,hnb,ha,hc,hww,hfl⟩:=h
 exact RCopy_any hv hw hc hww hfl
end
end
section
open Go.RowKit
def fileOf (p:DP) (nm:List UInt8):List ByteArray:=match findP ⟨nm.toArray⟩ p.dir with
 | some i=>p.file i
 | none=>[]
def flOf (p:DP):List Fl:=(sN p.dir).map fun nm=>(nm,fileOf p nm)
def saveP (p:DP):List UInt8:=saveL (flOf p)
theorem crashW_nil:∀ (i:Nat) (l:List PW) (fs:List (List ByteArray)),crashW [] i l fs=fs
 | _,[],_=>rfl
 | i,x::l,fs=>by simp [crashW,crashW_nil (i+1) l fs]
theorem crash_0 (p:DP):crashP p 0 []={p with chs:=[],wrs:=[],armed:=false}:=by
 unfold crashP
 rw [crashW_nil]
 rfl
theorem sN_mem {d:List En} {nm:List UInt8} (h:nm∈sN d):∃ e∈d,e.nm=⟨nm.toArray⟩:=by
 unfold sN at h
 rw [List.mem_mergeSort] at h
 obtain ⟨e,he,rfl⟩:=List.mem_map.1 h
 exact ⟨e,he,rfl⟩
theorem sN_find {d:List En} {nm:List UInt8} (h:nm∈sN d):∃ i,findP ⟨nm.toArray⟩ d=some i∧i∈d.map (·.id):=by
 obtain ⟨e,he,hn⟩:=sN_mem h
 unfold findP
 cases hf:d.find? fun e=>decide (e.nm=⟨nm.toArray⟩) with
 | none =>
  have:=List.find?_eq_none.1 hf e he
  simp [hn] at this
 | some x=>exact ⟨x.id,rfl,List.mem_map.2 ⟨x,List.mem_of_find?_eq_some hf,rfl⟩⟩
theorem conv_nm (w:World) (nm:List UInt8):∃ A c w',(convert 9 36 (.string ⟨nm.toArray⟩)).run Tryz.prog w=.ok (.slice A nm.length c) w'∧Reads w' w'.heap.size 1 A nm.length (bl nm)∧Below w.heap.size w w':=by
 have h:=Go.Lib.run_convert_string_bytes (P:=Tryz.prog) w 9 36 5 ⟨nm.toArray⟩ Tryz.underlying9 Tryz.underlying36 Tryz.underlying5
 have hsz:(⟨nm.toArray⟩:ByteArray).size=nm.length:=by simp [ByteArray.size]
 rw [hsz] at h
 refine ⟨_,_,_,h,⟨by rw [bl_len];omega,fun h0=>⟨_,rfl,by rw [Go.Lib.bytesWorld_size];simp,fun j x hx=>?_⟩⟩,below_bytes w _⟩
 have hj:j<nm.length:=by have:=(List.getElem?_eq_some_iff.1 hx).1;rw [bl_len] at this;exact this
 have hc:=Go.Lib.bytesWorld_cell w 5 ⟨nm.toArray⟩ j (by rw [hsz];exact hj)
 unfold bl at hx
 rw [List.getElem?_map,List.getElem?_eq_getElem hj] at hx
 cases hx
 rw [show (⟨w.heap.size,0,none⟩:Addr).add j=⟨w.heap.size,j,none⟩ by unfold Addr.add;split <;> simp_all,hc]
 simp [hj]
theorem sN_small {p:DP} (h:WF p) {nm:List UInt8} (hn:nm∈sN p.dir):nm.length≤16:=by
 obtain ⟨e,he,hnm⟩:=sN_mem hn
 have:=h.dir.name e he
 rw [hnm] at this
 unfold nameOK at this
 simp [ByteArray.size] at this
 omega
theorem saveL_take_succ {l:List Fl} {k:Nat} {x:Fl} (h:l[k]?=some x):saveL (l.take (k+1))=saveL (l.take k)++fileB x:=by
 unfold saveL
 rw [List.take_add_one,h]
 simp
theorem saveL_take_le (l:List Fl) (k:Nat):(saveL (l.take k)).length≤(saveL l).length:=by
 have h:saveL l=saveL (l.take k)++saveL (l.drop k):=by
  unfold saveL
  rw [←List.flatMap_append,List.take_append_drop]
 rw [h,List.length_append]
 omega
theorem bytes_bl (s:ByteArray):bytesOf s=bl s.data.toList:=by
 first
  | rfl
  | (unfold bytesOf bl;rfl)
  | simp [bytesOf,bl]
theorem secB_take_succ {l:List ByteArray} {k:Nat} {x:ByteArray} (h:l[k]?=some x):secB (l.take (k+1))=secB (l.take k)++x.data.toList:=by
 unfold secB
 rw [List.take_add_one,h]
 simp
theorem secB_take_le (l:List ByteArray) (k:Nat):(secB (l.take k)).length≤(secB l).length:=by
 have h:secB l=secB (l.take k)++secB (l.drop k):=by
  unfold secB
  rw [←List.flatMap_append,List.take_append_drop]
 rw [h,List.length_append]
 omega
theorem ownB {w1 w2 w3:World} {e size n:Nat} {v:Value} {xs:List Value} (h:w2.ownsRow w1.heap.size e size v n xs) (hb:Below w1.heap.size w1 w2) (hb2:Below w2.heap.size w2 w3):w3.ownsRow w1.heap.size e size v n xs:=by
 refine ⟨h.1,h.2.imp id fun ⟨g,cap,cur,e1,e2,e3,r⟩=>⟨g,cap,cur,e1,e2,(hb2.block g (Array.getElem?_eq_some_iff.1 e3).1).trans e3,r⟩⟩
set_option maxHeartbeats 4000000 in
set_option maxRecDepth 100000 in
theorem RSave_0 {X:Nat→Prop} {w:World} {rb:Nat} {p:DP} (h:RA X w rb p) (h9:(saveP p).length≤3000000) :
 Calls Tryz.prog 20 #[.pointer (some ⟨rb,0,none⟩)] w fun e w'=>∃ v,e=.returned v∧w'.ownsRow w.heap.size 5 1 v (saveP p).length (bl (saveP p))∧Below w.heap.size w w':=by
 have hC:=rd_copy h
 go_enter Tryz.func20,Tryz.ntmps20
 go_wp2_with fail
 go_at_call 16
 refine hC.mono ?_
 rintro e w1 ⟨cb,rfl,hR,hb1⟩
 have hra:RA (fun k=>w.heap.size≤k∧KR w1 k) w1 cb p:=⟨hR.only,h.wf,fun k hk=>hk.2.lt,fun k cs hk=>kr_byte hk.2 cs,h.after,h.chs,h.wrs,h.fls⟩
 have hCr:=RCrash_any hra 0 (Ak:=none) (ck:=0) (ks:=[]) (fun W0 _=>Reads.none_) (by simp)
 rw [crash_0] at hCr
 go_wp2_with fail
 go_at_call 44
 refine hCr.mono ?_
 rintro e w2 ⟨rfl,hR2,hf2⟩
 have hwf:WF {p with chs:=[],wrs:=[],armed:=false}:=⟨h.wf.dir,trivial,fun i hi=>h.wf.ids i (by
  unfold DP.live at hi ⊢
  simp only [List.flatMap_nil,List.map_nil,List.append_nil] at hi
  simp only [List.mem_append]
  exact .inl (.inl hi)),fun x hx=>by simp at hx,h.wf.files,h.wf.room⟩
 have hra2:RA _ w2 cb {p with chs:=[],wrs:=[],armed:=false}:=⟨hR2.only,hwf,fun k hk=>hk.2.lt,fun k cs hk=>kr_byte hk.2 cs,h.after,by simp,by simp,h.fls⟩
 have hb2:Below w.heap.size w w2:=hb1.trans (Fr.below hf2 hb1.size (fun k hk=>hk.1))
 have hN:=rd_names hra2
 go_wp2_with fail
 go_at_call 46
 refine hN.mono ?_
 rintro e w3 ⟨v,rfl,ho3,hb3⟩
 obtain ⟨A3,c3,rfl⟩:=own_formS ho3
 have hb3':Below w.heap.size w w3:=hb2.trans (hb3.mono hb2.size)
 have hra3:=hra2.below hb3
 have hlen8:(sN p.dir).length≤8:=by
  have:=h.wf.dir.len
  unfold sN
  rw [List.length_mergeSort,List.length_map]
  exact this
 have hstr:Reads w3 w3.heap.size 1 A3 (sN p.dir).length ((sN p.dir).map encStr):=Reads.of_own ho3
 have HW:=Lib.hid (And.intro h (And.intro hra3 (And.intro hstr hb3')))
 clear hra hra2 hra3 hwf hR hR2 hf2 hCr hC hN ho3 hb1 hb2 hb3 hb3' hstr
 go_wp2
 go_loopw [4,6,7,8,9,10] (fun b i _ _ _ _ wr=>Below w3.heap.size w3 wr∧∃ (k:Nat) (A:Option Addr) (c:Nat),k≤(sN p.dir).length∧i=.int .i64 k∧b=.slice A (saveL ((flOf p).take k)).length c∧wr.ownsRow w3.heap.size 5 1 b (saveL ((flOf p).take k)).length (bl (saveL ((flOf p).take k)))) (fun _ i _ _ _ _ _=>(sN p.dir).length-(intOf i).toNat)
 case atStart=>exact ⟨Below.refl _ _,0,none,0,Nat.zero_le _,rfl,rfl,World.ownsRow_nil _ _ _ _⟩
 case round =>
  obtain ⟨hb,k,A,c,hk,rfl,rfl,ho⟩:=hrel
  obtain ⟨wo,rfl⟩:∃ wo,wo=wr:=⟨wr,rfl⟩
  by_cases hlt:k<(sN p.dir).length
  ·have d1:decide (k<(sN p.dir).length)=true:=by simpa using hlt
   obtain ⟨nm,hnm⟩:∃ nm,(sN p.dir)[k]?=some nm:=⟨_,List.getElem?_eq_getElem hlt⟩
   obtain ⟨i,hf,hid⟩:=sN_find (List.mem_of_getElem? hnm)
   have hi:i<p.files.length:=h.wf.ids i (by unfold DP.live;simp only [List.mem_append];exact .inl (.inl hid))
   have hfo:fileOf p nm=p.file i:=by unfold fileOf;rw [hf]
   have hfl:(flOf p)[k]?=some (nm,p.file i):=by unfold flOf;rw [List.getElem?_map,hnm,←hfo];rfl
   have hfn:=h.fls
   obtain ⟨ad,u,rfl,_,hu,hcs⟩:=(HW.out.2.2.1.below hb).at_ hlt
   rw [List.getElem?_map,hnm] at hu
   cases hu
   obtain ⟨⟨vd,vc,vf,vw,V,L,W,hv⟩,hwf,_⟩:=HW.out.2.1
   obtain ⟨g,cf,A',c',rfl,hV,hgl,hXg,hcell⟩:=hv.file hi
   have hI:∀ W0,Below w3.heap.size w3 W0→Calls Tryz.prog 63 #[.pointer (some ⟨cb,0,none⟩),.string ⟨nm.toArray⟩] W0 fun e w'=>e=.returned (.tuple #[.int .i64 i,.bool true])∧Below W0.heap.size W0 w':=fun W0 hb=>by
    have:=RId_any (hv.below hb) hwf (by simp) ⟨nm.toArray⟩
    rw [show ({p with chs:=[],wrs:=[],armed:=false}:DP).now=p.dir from rfl,hf] at this
    exact this
   have hA:∀ W0,Below w3.heap.size w3 W0→Calls Tryz.prog 64 #[.pointer (some ⟨cb,0,none⟩),.int .i64 i] W0 fun e w'=>e=.returned (.int .i64 i)∧W0=w':=fun W0 hb=>RAt_go (hv.below hb) hi (by show p.files.length≤_;omega)
   have b3:∀ W0,Below w3.heap.size w3 W0→W0.cell? ⟨cb,3,none⟩=some (.slice (some ⟨g,0,none⟩) p.files.length cf):=fun W0 hb=>(hv.below hb).blk.cell 3
   have hlv:(L i).length=(p.file i).length:=by have:=hv.lp i hi;rw [show ({p with chs:=[],wrs:=[],armed:=false}:DP).file i=p.file i from rfl] at this;rw [this];simp
   have HV:=Lib.hid (And.intro hv (And.intro hV (And.intro hi (And.intro hlv (And.intro hfl hb)))))
   have i0:(0:Int)≤(i:Int):=by omega
   have i1:(i:Int)<(p.files.length:Int):=by omega
   have j0:(0:Int)≤(k:Int):=by omega
   have j1:(k:Int)<((sN p.dir).length:Int):=by omega
   have HN:=Lib.hid hnm
   clear hv hV hwf hnm hf hid hfo hfl hXg hgl hfn hlv
   unfold encStr at hcs
   go_wp2_with (go_at_call 63;refine (hI wo hb).mono ?_;rintro e w4 ⟨rfl,hb4⟩;have hb4':Below w3.heap.size w3 w4:=hb.trans (hb4.mono hb.size);have k3:=b3 w4 hb4';obtain ⟨q0,q1⟩:=hcell w4 hb4')
   go_region_held3 (fun W0=>W0.cell? ⟨cb,3,none⟩=some (.slice (some ⟨g,0,none⟩) p.files.length cf)∧W0.cell? ⟨g,i*2+1,none⟩=some (.slice A' (p.file i).length c'))
    (exact ⟨k3,q1⟩)
    ((go_at_call 64;refine (hA _ hb4'.drew).mono ?_;rintro e w8 ⟨rfl,rfl⟩))
   have hb5:=hb4'.drew
   have hb45:Below wo.heap.size wo w4.drew:=hb4.drew
   obtain ⟨w5,hw5⟩:∃ w5,w4.drew=w5:=⟨_,rfl⟩
   rw [hw5] at hb5 hb45 ⊢
   clear hw5 k3 q0 q1 hb4 hb4'
   have hcs5:w5.cell? (ad.add k)=some (.string ⟨nm.toArray⟩):=(hb45.cell (World.block_lt_of_cell? wo _ hcs)).trans hcs
   have ho5:=ownB ho hb hb45
   obtain ⟨A6,c6,w6,hcv,hr6,hb6⟩:=conv_nm w5 nm
   have hnl:nm.length≤16:=sN_small h.wf (List.mem_of_getElem? HN.out)
   have hPB:=RNPutB_any A6 c6 nm w6 (Nat.le_refl _) hr6 (by omega)
   have hL:=saveL_take_le (flOf p) (k+1)
   have hLs:=saveL_take_succ HV.out.2.2.2.2.1
   have hfb:fileB (nm,p.file i)=putB nm++(putN (p.file i).length++secB (p.file i)):=rfl
   rw [hLs,hfb] at hL
   simp only [List.length_append] at hL
   have hL9:(saveL (flOf p)).length≤3000000:=h9
   have hfile:(p.file i).length≤4096:=h.wf.file_len i
   obtain ⟨L,hLe⟩:∃ L,saveL ((flOf p).take k)=L:=⟨_,rfl⟩
   rw [hLe] at ho5 hL hLs ⊢
   obtain ⟨S,hS⟩:∃ S,saveL (flOf p)=S:=⟨_,rfl⟩
   rw [hS] at hL hL9
   have HLS:=Lib.hid (And.intro hLs (And.intro hLe hS))
   have hPN:=RNPut_any (p.file i).length (by omega)
   clear hLs hLe hS hfb
   go_wp2_with (first
    | (go_at_call 65;refine hPB.mono ?_;rintro e w7 ⟨v7,rfl,ho7,hb7⟩;obtain ⟨A7,c7,rfl⟩:=own_formS ho7;have hb57:Below w5.heap.size w5 w7:=hb6.trans (hb7.mono hb6.size);have ho7b:=ownB ho5 hb5 hb57;have hb37:=hb5.trans (hb57.mono hb5.size))
    | (at_builtin;refine list_push8 TBy rfl rfl w3.heap.size rfl ho8b rfl (Reads.of_own ho9) (bl_one _) (by omega) hb39.size rfl (ys:=bl ((L++putB nm)++putN (p.file i).length)) (by rw [bl_append (L++putB nm)]) ?_;intro A10 c10 w10 ho10 hg10 hl10;have hb310:=hb39.grown hg10 hb39.size (fun k e=>(ho8b.lt k e).1))
    | (at_builtin;refine list_push8 TBy rfl rfl w3.heap.size rfl ho7b rfl (Reads.of_own ho7) (bl_one _) (by omega) hb37.size rfl (ys:=bl (L++putB nm)) (by rw [bl_append]) ?_;intro A8 c8 w8 ho8 hg8 hl8;have hb38:=hb37.grown hg8 hb37.size (fun k e=>(ho7b.lt k e).1))
    | (go_at_call 66;refine (hPN w8).mono ?_;rintro e w9 ⟨v9,rfl,ho9,hb9⟩;obtain ⟨A9,c9,rfl⟩:=own_formS ho9;have ho8b:=ownB ho8 hb38 hb9;have hb39:=hb38.trans (hb9.mono hb38.size)))
   all_goals
    obtain ⟨L4,hL4⟩:∃ L4,(L++putB nm)++putN (p.file i).length=L4:=⟨_,rfl⟩
    have hl4:L4.length=L.length+(putB nm).length+(putN (p.file i).length).length:=by rw [←hL4];simp only [List.length_append]
    rw [←hl4,hL4] at ho10
    rw [←hl4]
    have HL4:=Lib.hid hL4
    have HL5:=Lib.hid hl4
    clear hL4 hl4 ho ho5 ho7b ho8b ho8 ho9 ho7 hcv hPB hPN hr6
    go_loopw [4,10] (fun b t wr=>Below w3.heap.size w3 wr∧∃ (m:Nat) (A:Option Addr) (c:Nat) (R:List UInt8),m≤(p.file i).length∧t=.int .i64 m∧R=L4++secB ((p.file i).take m)∧b=.slice A R.length c∧wr.ownsRow w3.heap.size 5 1 b R.length (bl R)) (fun _ t _=>(p.file i).length-(intOf t).toNat)
    case atStart=>exact ⟨hb310,0,A10,c10,L4,Nat.zero_le _,rfl,by simp [secB],rfl,ho10⟩
    case round =>
     clear ho10 hb310
     obtain ⟨hB,m,A,c,R,hm,rfl,hR,rfl,ho⟩:=hrel
     have hlen:R.length=L4.length+(secB ((p.file i).take m)).length:=by rw [hR,List.length_append]
     have HR:=Lib.hid hR
     have HLN:=Lib.hid hlen
     clear hR hlen
     obtain ⟨wq,rfl⟩:∃ wq,wq=wr:=⟨wr,rfl⟩
     by_cases hlm:m<(p.file i).length
     ·have d2:decide (m<(p.file i).length)=true:=by simpa using hlm
      obtain ⟨s,hs⟩:∃ s,(p.file i)[m]?=some s:=⟨_,List.getElem?_eq_getElem hlm⟩
      have hgd:(p.file i).getD m ByteArray.empty=s:=by rw [List.getD_eq_getElem?_getD,hs];rfl
      obtain ⟨hv,hV,_,_,_,_⟩:=HV.out
      obtain ⟨g2,v,hA',hg2,_,hsec,hc2⟩:=hv.sector (i:=i) (m:=m) hi hlm hV
      subst hA'
      have hcell2:=hc2 wq hB
      have hsec2:SecW wq v s:=by rw [←hgd];exact hsec.keep (KB.of_below hB)
      obtain ⟨gs,cs,rfl,hrd⟩:=hsec2.reads
      rw [bytes_bl] at hrd
      have hs64:=hsec2.1
      have hsl:s.data.toList.length=64:=by rw [Array.length_toList];exact hs64
      have hst:=secB_take_succ hs
      have hle:=secB_take_le (p.file i) m
      have m0:(0:Int)≤(m:Int):=by omega
      have m1:(m:Int)<((p.file i).length:Int):=by omega
      have HST:=Lib.hid (And.intro hst hsl)
      clear hv hV hsec hc2 hsec2 hgd hs hst hsl
      go_wp2_with (at_builtin;refine list_push8 TBy rfl rfl w3.heap.size rfl ho rfl hrd (bl_one _) (by have:=HL5.out;have:=HLN.out;omega) hB.size rfl (ys:=bl (R++s.data.toList)) (by rw [bl_append]) ?_;intro A12 c12 w12 ho12 hg12 hl12)
      all_goals
       have e12:(R++s.data.toList).length=R.length+64:=by rw [List.length_append,HST.out.2]
       have e13:R++s.data.toList=L4++secB ((p.file i).take (m+1)):=by rw [HR.out,HST.out.1,List.append_assoc]
       have HE:=Lib.hid (And.intro (hB.grown hg12 hB.size (fun k e=>(ho.lt k e).1)) (And.intro ho12 (And.intro e12 e13)))
       clear e12 e13
       go_roundw
       case rel=>exact ⟨HE.out.1,m+1,A12,c12,R++s.data.toList,by omega,by go_num,HE.out.2.2.2,by rw [HE.out.2.2.1],by rw [HE.out.2.2.1];exact HE.out.2.1⟩
       case measure=>simp [intOf];omega
     ·have d2:decide (m<(p.file i).length)=false:=by simpa using hlm
      have hm':m=(p.file i).length:=by omega
      have e:R=saveL ((flOf p).take (k+1)):=by
       rw [HR.out,HLS.out.1,←HL4.out,List.take_of_length_le (by omega)]
       show _=L++(putB nm++(putN (p.file i).length++secB (p.file i)))
       simp only [List.append_assoc]
      have HE:=Lib.hid (And.intro ho e)
      clear ho e hm'
      go_wp2
      go_roundw
      case rel=>exact ⟨hB,k+1,A,c,by omega,by go_num,by rw [←HE.out.2],by rw [←HE.out.2];exact HE.out.1⟩
      case measure=>simp [intOf];omega
  ·have d1:decide (k<(sN p.dir).length)=false:=by simpa using hlt
   have hk':k=(sN p.dir).length:=by omega
   have e:saveL ((flOf p).take k)=saveP p:=by
    unfold saveP
    rw [List.take_of_length_le (by unfold flOf;rw [List.length_map];omega)]
   have HE:=Lib.hid e
   clear e hk'
   go_wp2
   go_ret
   rw [←HE.out]
   exact ⟨_,rfl,own_le ho (HW.out.2.2.2.size),HW.out.2.2.2.trans (hb.mono HW.out.2.2.2.size)⟩
end
section
open Go.RowKit
theorem reads_mono {B B':Nat} {w:World} {A:Option Addr} {n size:Nat} {l:List Value} (h:Reads w B size A n l) (hB:B≤B'):Reads w B' size A n l :=
 ⟨h.1,fun h0=>by
  obtain ⟨a,e,h1,h2⟩:=h.2 h0
  exact ⟨a,e,Nat.lt_of_lt_of_le h1 hB,h2⟩⟩
set_option maxHeartbeats 2000000 in
set_option maxRecDepth 100000 in
theorem VPutB_any {B:Nat} (A:Option Addr) (c:Nat) (s:List UInt8) (w:World) (hB:B≤w.heap.size) (hr:Reads w B 1 A s.length (bl s)) (hs:s.length<16384) :
 Calls Tryz.prog 58 #[.slice A s.length c] w fun e w'=>∃ v,e=.returned v∧w'.ownsRow w.heap.size 5 1 v (putB s).length (bl (putB s))∧Below w.heap.size w w':=by
 have hP:=VPut_any s.length hs w
 have hl:=putN_len s.length
 have hcat:∀ A1 c1,cat [⟨A1,c1,putN s.length⟩,⟨A,c,s⟩]=putB s:=fun A1 c1=>by simp [cat,putB]
 have hpl:(putB s).length=(putN s.length).length+s.length:=by unfold putB;rw [List.length_append]
 go_enter Tryz.func58,Tryz.ntmps58
 go_wp2_with fail
 go_at_call 59
 refine hP.mono ?_
 rintro e w1 ⟨A1,c1,rfl,hr1,hb1⟩
 have hC:=Concat_any (B:=w1.heap.size) w1.heap.size 2 [⟨A1,c1,putN s.length⟩,⟨A,c,s⟩] (w1.alloc (.cells #[.slice A1 (putN s.length).length c1,.slice A s.length c] 36)) (by simp) (fun k p hk=>by
  have hbk:=Blk.new w1 36 #[.slice A1 (putN s.length).length c1,.slice A s.length c]
  rw [hbk.cell]
  rcases k with _ | _ | k
  ·cases hk;rfl
  ·cases hk;rfl
  ·simp at hk) (fun p hp=>by
  have hba:Below w1.heap.size w1 (w1.alloc (.cells #[.slice A1 (putN s.length).length c1,.slice A s.length c] 36)):=(Below.refl _ w1).alloc (Nat.le_refl _) _
  simp only [List.mem_cons,List.not_mem_nil,or_false] at hp
  rcases hp with rfl | rfl
  ·exact hr1.below hba
  ·exact (reads_mono (hr.below (hb1.mono hB)) (Nat.le_trans hB hb1.size)).below hba) (by rw [hcat,hpl];omega) (by simp)
 rw [hcat] at hC
 go_wp2_with fail
 refine hC.mono ?_
 rintro e w2 ⟨v,rfl,ho,hb2⟩
 go_wp2
 go_ret
 have hba:Below w.heap.size w (w1.alloc (.cells #[.slice A1 (putN s.length).length c1,.slice A s.length c] 36)):=hb1.alloc hb1.size _
 exact ⟨_,rfl,own_le ho hba.size,hba.trans (hb2.mono hba.size)⟩
end
section
open Go.RowKit
theorem Concat3 {w0 w7 w8:World} {A A7 A8:Option Addr} {c c7 c8:Nat} {L b1 b2:List UInt8} (hL:Reads w0 w0.heap.size 1 A L.length (bl L)) (h1:Reads w7 w7.heap.size 1 A7 b1.length (bl b1)) (h2:Reads w8 w8.heap.size 1 A8 b2.length (bl b2)) (k0:Below w0.heap.size w0 w8) (k7:Below w7.heap.size w7 w8) (hs:((L++b1)++b2).length≤3000000) :
 Calls Tryz.prog 57 #[.slice (some ⟨w8.heap.size,0,none⟩) 3 3] (w8.alloc (.cells #[.slice A L.length c,.slice A7 b1.length c7,.slice A8 b2.length c8] 36)) fun e w'=>∃ v,e=.returned v∧w'.ownsRow (w8.heap.size+1) 5 1 v ((L++b1)++b2).length (bl ((L++b1)++b2))∧Below w8.heap.size w8 w':=by
 have hcat:cat [⟨A,c,L⟩,⟨A7,c7,b1⟩,⟨A8,c8,b2⟩]=(L++b1)++b2:=by simp [cat]
 have hba:Below w8.heap.size w8 (w8.alloc (.cells #[.slice A L.length c,.slice A7 b1.length c7,.slice A8 b2.length c8] 36)):=(Below.refl _ w8).alloc (Nat.le_refl _) _
 have hC:=Concat_any (B:=w8.heap.size) w8.heap.size 3 [⟨A,c,L⟩,⟨A7,c7,b1⟩,⟨A8,c8,b2⟩] (w8.alloc (.cells #[.slice A L.length c,.slice A7 b1.length c7,.slice A8 b2.length c8] 36)) (by simp) (fun k p hk=>by
  have hbk:=Blk.new w8 36 #[.slice A L.length c,.slice A7 b1.length c7,.slice A8 b2.length c8]
  rw [hbk.cell]
  rcases k with _ | _ | _ | k
  ·cases hk;rfl
  ·cases hk;rfl
  ·cases hk;rfl
  ·simp at hk) (fun p hp=>by
  simp only [List.mem_cons,List.not_mem_nil,or_false] at hp
  rcases hp with rfl | rfl | rfl
  ·exact (reads_mono (hL.below k0) k0.size).below hba
  ·exact (reads_mono (h1.below k7) k7.size).below hba
  ·exact h2.below hba) (by rw [hcat];exact hs) (by simp)
 rw [hcat] at hC
 refine hC.mono ?_
 rintro e w' ⟨v,rfl,ho,hb⟩
 exact ⟨v,rfl,by rw [show (w8.alloc (.cells #[.slice A L.length c,.slice A7 b1.length c7,.slice A8 b2.length c8] 36)).heap.size=w8.heap.size+1 by simp] at ho;exact ho,hba.trans (hb.mono hba.size)⟩
theorem by_info:∃ i,Tryz.prog.info? 5=some i∧i.zero=some (.int .u8 0)∧i.size=1∧i.bytes=1:=by
 have hi:(Tryz.prog.info? 5).map (fun i=>(i.zero,i.size,i.bytes))=some (some (.int .u8 0),1,1):=by kernel_rfl
 cases h:Tryz.prog.info? 5 with
 | none=>rw [h] at hi;cases hi
 | some i =>
  rw [h] at hi
  simp only [Option.map_some,Option.some.injEq,Prod.mk.injEq] at hi
  exact ⟨i,rfl,hi.1,hi.2.1,hi.2.2⟩
section
variable {X:Nat→Prop} {w:World} {db:Nat} {p:DP}
set_option maxHeartbeats 4000000 in
set_option maxRecDepth 100000 in
theorem VSave_any (h:PD X w db p) (h9:(saveP p).length≤3000000) :
 Calls Tryz.prog 18 #[.pointer (some ⟨db,0,none⟩)] w fun e w'=>∃ v,e=.returned v∧w'.ownsRow w.heap.size 5 1 v (saveP p).length (bl (saveP p))∧Below w.heap.size w w':=by
 obtain ⟨M1,M2,v3,v4,q,fs,V,C,fb,hD,hF,ht⟩:=h
 have c1:w.cell? ⟨db,1,none⟩=some (.map (some M1)):=hD.blk.cell 1
 have hM1:M1<w.heap.size:=(Array.getElem?_eq_some_iff.1 hD.m1).1
 have hdbl:db<w.heap.size:=hD.blk.lt
 have hS:=sorted_any hD.m1 ht.ok1 (fun x hx=>by
  obtain ⟨e,he,e1,_⟩:=ht.f_ofD hx
  rw [e1]
  have:=nameOK_size (ht.wf.dir.name e he)
  omega) (by rw [ht.lenD];have:=ht.wf.dir.len;omega) ht.permD
 have hlen8:(sN p.dir).length≤8:=by
  have:=ht.wf.dir.len
  unfold sN
  rw [List.length_mergeSort,List.length_map]
  exact this
 have HS:=Lib.hid hS
 have HD:=Lib.hid (And.intro hD (And.intro hF ht))
 clear hS hD hF ht
 go_enter Tryz.func18,Tryz.ntmps18
 go_wp2_with (first
  | (go_at_call 56;refine (keys_any M1 w).mono ?_;rintro e w1 ⟨rfl,rfl⟩)
  | (go_at_call 55;refine HS.out.mono ?_;rintro e w3 ⟨v,rfl,ho3,hb3⟩;obtain ⟨A3,c3,rfl⟩:=own_formS ho3))
 have hstr:Reads w3 w3.heap.size 1 A3 (sN p.dir).length ((sN p.dir).map encStr):=Reads.of_own ho3
 have HW:=Lib.hid (And.intro hstr hb3)
 have hM13:M1<w3.heap.size:=Nat.lt_of_lt_of_le hM1 hb3.size
 clear ho3 hb3 hstr HS
 go_loopw [3,5,6,8,18] (fun b _ _ _ i wr=>Below w3.heap.size w3 wr∧∃ (k:Nat) (A:Option Addr) (c:Nat),k≤(sN p.dir).length∧i=.int .i64 k∧b=.slice A (saveL ((flOf p).take k)).length c∧wr.ownsRow w3.heap.size 5 1 b (saveL ((flOf p).take k)).length (bl (saveL ((flOf p).take k)))) (fun _ _ _ _ i _=>(sN p.dir).length-(intOf i).toNat)
 case atStart=>exact ⟨Below.refl _ _,0,none,0,Nat.zero_le _,rfl,rfl,World.ownsRow_nil _ _ _ _⟩
 case round =>
  obtain ⟨hb,k,A,c,hk,rfl,rfl,ho⟩:=hrel
  obtain ⟨wo,rfl⟩:∃ wo,wo=wr:=⟨wr,rfl⟩
  by_cases hlt:k<(sN p.dir).length
  ·have d1:decide (k<(sN p.dir).length)=true:=by simpa using hlt
   obtain ⟨nm,hnm⟩:∃ nm,(sN p.dir)[k]?=some nm:=⟨_,List.getElem?_eq_getElem hlt⟩
   obtain ⟨i,hf,hid⟩:=sN_find (List.mem_of_getElem? hnm)
   obtain ⟨hD,hF,ht⟩:=HD.out
   have hli:i∈p.live:=by unfold DP.live;simp only [List.mem_append];exact .inl (.inl hid)
   have hfo:fileOf p nm=p.file i:=by unfold fileOf;rw [hf]
   have hfl:(flOf p)[k]?=some (nm,p.file i):=by unfold flOf;rw [List.getElem?_map,hnm,←hfo];rfl
   have hnl:nm.length≤16:=sN_small ht.wf (List.mem_of_getElem? hnm)
   have hfile:(p.file i).length≤4096:=ht.wf.file_len i
   obtain ⟨ad,u,rfl,_,hu,hcs⟩:=(HW.out.1.below hb).at_ hlt
   rw [List.getElem?_map,hnm] at hu
   cases hu
   unfold encStr at hcs
   have hbw:Below w.heap.size w wo:=HW.out.2.trans (hb.mono HW.out.2.size)
   have hlk:(Instr.lookup 62 (.map (some M1)) (.string ⟨nm.toArray⟩) false).run Tryz.prog wo=.ok (.pointer (some ⟨fb i,0,none⟩)) wo:=by
    have h1:lkF ⟨nm.toArray⟩ q.dir=some (fb i):=by rw [ht.dir,hf];rfl
    obtain ⟨j,y,hl,hy,_,_⟩:=lkF_some h1
    have h2:=run_look (id:=⟨nm.toArray⟩) ((hbw.block M1 hM1).trans hD.m1) false
    rw [hl] at h2
    rw [h2]
    show Result.ok y.val wo=_
    unfold DE.val
    rw [hy]
   have hrow:=hF.row (fb i) (ht.mem i hli) false
   rw [ht.cs i hli] at hrow
   obtain ⟨Af,cf,hV⟩:=hrow.form
   have hfb:=hF.blk (fb i) (ht.mem i hli)
   have kf:∀ W,Below w3.heap.size w3 W→W.cell? ⟨fb i,0,none⟩=some (.slice Af (p.file i).length cf):=fun W hW=>by
    have hb':=HW.out.2.trans (hW.mono HW.out.2.size)
    rw [hb'.cell (p:=⟨fb i,0,none⟩) hfb.lt,hfb.cell,←hV];rfl
   have kd:∀ W,Below w3.heap.size w3 W→W.cell? ⟨db,1,none⟩=some (.map (some M1)):=fun W hW=>((HW.out.2.trans (hW.mono HW.out.2.size)).cell (p:=⟨db,1,none⟩) hdbl).trans c1
   have kf0:=kf wo hb
   have kd0:=kd wo hb
   rw [hV] at hrow
   have hbo:Below wo.heap.size wo wo.drew:=(Below.refl _ wo).drew
   obtain ⟨A6,c6,w6,hcv,hr6,hb6⟩:=conv_nm wo.drew nm
   have hbd:Below w3.heap.size w3 wo.drew:=hb.trans (hbo.mono hb.size)
   have kfd:=kf _ hbd
   have kf6:=kf w6 (hbd.trans (hb6.mono hbd.size))
   have hLr:Reads wo wo.heap.size 1 A (saveL ((flOf p).take k)).length (bl (saveL ((flOf p).take k))):=Reads.of_own ho
   have hPB:=VPutB_any A6 c6 nm w6 (Nat.le_refl _) hr6 (by omega)
   have hPN:=VPut_any (p.file i).length (by omega)
   have hL:=saveL_take_le (flOf p) (k+1)
   have hLs:=saveL_take_succ hfl
   have hfb2:fileB (nm,p.file i)=putB nm++(putN (p.file i).length++secB (p.file i)):=rfl
   rw [hLs,hfb2] at hL
   simp only [List.length_append] at hL
   have hL9:(saveL (flOf p)).length≤3000000:=h9
   obtain ⟨L,hLe⟩:∃ L,saveL ((flOf p).take k)=L:=⟨_,rfl⟩
   rw [hLe] at ho hL hLs hLr ⊢
   obtain ⟨S,hSe⟩:∃ S,saveL (flOf p)=S:=⟨_,rfl⟩
   rw [hSe] at hL hL9
   have HLS:=Lib.hid (And.intro hLs (And.intro hLe hSe))
   have HR:=Lib.hid (And.intro hrow hb)
   have i0:(0:Int)≤(k:Int):=by omega
   have i1:(k:Int)<((sN p.dir).length:Int):=by omega
   clear hD hF ht hli hfo hfl hf hid hnm hV hfb hfb2 hLs hLe hSe hrow
   go_wp2_with fail
   have hwu:IntKind.u64.wrap ((p.file i).length:Int)=((p.file i).length:Int):=by rw [IntKind.wrap_u64];omega
   refine regionE 13 (fun W0=>W0.cell? ⟨fb i,0,none⟩=some (.slice Af (p.file i).length cf)) (by kernel_rfl) (by kernel_rfl) (by kernel_rfl) (by kernel_rfl) (by kernel_rfl) (kfd) (fun hHeld hTl=>?_)
   refine tkT 0 (v:=?_) hTl hHeld rfl ?_ (fun hTl=>?_);rotate_left
   ·intro w hSw;(try dsimp only at hSw);go_simp;all_goals with_reducible rfl
   try simp only [pT]
   refine tkT 1 (v:=?_) hTl hHeld rfl ?_ (fun hTl=>?_);rotate_left
   ·intro w hSw;(try dsimp only at hSw);go_simp;all_goals with_reducible rfl
   try simp only [pT]
   refine tkT 4 (v:=?_) hTl hHeld rfl ?_ (fun hTl=>?_);rotate_left
   ·intro w hSw;(try dsimp only at hSw);go_simp;all_goals with_reducible rfl
   try simp only [pT]
   refine tkT 5 (v:=?_) hTl hHeld rfl ?_ (fun hTl=>?_);rotate_left
   ·intro w hSw;(try dsimp only at hSw);go_simp;all_goals with_reducible rfl
   try simp only [pT]
   refine tkT 6 (v:=?_) hTl hHeld rfl ?_ (fun hTl=>?_);rotate_left
   ·intro w hSw;(try dsimp only at hSw);go_simp;all_goals with_reducible rfl
   try simp only [pT]
   refine tkT 7 (v:=?_) hTl hHeld rfl ?_ (fun hTl=>?_);rotate_left
   ·intro w hSw;(try dsimp only at hSw);go_simp;all_goals with_reducible rfl
   try simp only [pT]
   refine tkT 8 (v:=?_) hTl hHeld rfl ?_ (fun hTl=>?_);rotate_left
   ·intro w hSw;(try dsimp only at hSw);go_simp;all_goals with_reducible rfl
   try simp only [pT]
   refine tkT 9 (v:=?_) hTl hHeld rfl ?_ (fun hTl=>?_);rotate_left
   ·intro w hSw;(try dsimp only at hSw);go_simp;all_goals with_reducible rfl
   try simp only [pT]
   clear hTl
   refine oneE 2 rfl (by kernel_rfl) (fun K hK=>?_)
   go_simp
   refine hK.out _ _ (fun _=>kf6) ?_
   clear hK K
   try simp only [pT]
   refine oneE 3 rfl (by kernel_rfl) (fun K hK=>?_)
   refine step_callC rfl 58 _ (by go_simp) hPB ?_
   rintro e w7 ⟨v7,e7,ho7,hb7⟩;subst e7;obtain ⟨A7,c7,rfl⟩:=own_formS ho7;refine ⟨_,rfl,?_⟩;have hb37:=hbd.trans ((hb6.trans (hb7.mono hb6.size)).mono hbd.size);have kf7:=kf w7 hb37
   refine hK.out _ _ (fun _=>kf7) ?_
   clear hK K
   try simp only [pT]
   refine oneE 10 rfl (by kernel_rfl) (fun K hK=>?_)
   refine step_callC rfl 59 _ (by go_simp) (hPN w7) ?_
   rintro e w8 ⟨A8,c8,e8,hr8,hb8⟩;subst e8;refine ⟨_,rfl,?_⟩;have hb38:=hb37.trans (hb8.mono hb37.size);have kf8:=kf w8 hb38;have kf9:=kf _ (hb38.alloc hb38.size (.cells #[.slice A L.length c,.slice A7 (putB nm).length c7,.slice A8 (putN (p.file i).length).length c8] 36))
   refine hK.out _ _ (fun _=>kf8) ?_
   clear hK K
   try simp only [pT]
   have hbo7:=hbo.trans ((hb6.trans (hb7.mono hb6.size)).mono hbo.size)
   have hC:=Concat3 (c:=c) (c7:=c7) (c8:=c8) hLr (Reads.of_own ho7) hr8 (hbo7.trans (hb8.mono hbo7.size)) hb8 (by simp only [List.length_append];omega)
   refine oneE 11 rfl (by kernel_rfl) (fun K hK=>?_)
   go_simp
   refine hK.out _ _ (fun _=>kf9) ?_
   clear hK K
   try simp only [pT]
   refine oneE 12 rfl (by kernel_rfl) (fun K hK=>?_)
   refine step_callC rfl 57 _ (by go_simp) hC ?_
   rintro e w9 ⟨v9,e9,ho9,hb9⟩;subst e9;obtain ⟨A9,c9,rfl⟩:=own_formS ho9;refine ⟨_,rfl,?_⟩;have hb39:=hb38.trans (hb9.mono hb38.size);have kf10:=kf w9 hb39
   refine hK.out _ _ (fun _=>kf10) ?_
   clear hK K
   try simp only [pT]
   refine oneE 13 rfl (by kernel_rfl) (fun K hK=>?_)
   go_simp
   refine hK.out _ _ (fun h=>absurd h (by decide)) ?_
   clear hK K
   try simp only [pT]
   refine doneE (by kernel_rfl) ?_ _
   go_wp2
   clear hwu
   obtain ⟨L4,hL4⟩:∃ L4,(L++putB nm)++putN (p.file i).length=L4:=⟨_,rfl⟩
   have hl4:L4.length=L.length+((putB nm).length+(putN (p.file i).length).length):=by rw [←hL4];simp only [List.length_append];omega
   rw [hL4] at ho9
   rw [←hl4]
   have ho4:=own_le ho9 (Nat.le_trans hb38.size (Nat.le_succ _))
   try rw [hl4] at ho4
   try rw [←hl4] at ho4
   have HL4:=Lib.hid hL4
   have HL5:=Lib.hid hl4
   obtain ⟨i0',hi,hz0,hz1,hz2⟩:=by_info
   have HHi:=Lib.hid (And.intro hi (And.intro hz0 (And.intro hz1 hz2)))
   have HLL:=Lib.hid hL
   clear hL4 hl4 ho9 ho ho7 hcv hPB hPN hC hLr hr6 hr8 hi hz0 hz1 hz2 hL
   go_loopw [3,8,46] (fun b _ t wr=>Below w3.heap.size w3 wr∧∃ (m:Nat) (A:Option Addr) (c:Nat) (R:List UInt8),m≤(p.file i).length∧t=.int .i64 m∧R=L4++secB ((p.file i).take m)∧b=.slice A R.length c∧wr.ownsRow w3.heap.size 5 1 b R.length (bl R)) (fun _ _ t _=>(p.file i).length-(intOf t).toNat)
   case atStart=>exact ⟨hb39,0,A9,c9,L4,Nat.zero_le _,rfl,by simp [secB],rfl,ho4⟩
   case round =>
    obtain ⟨hB,m,A,c,R,hm,rfl,hR,rfl,ho⟩:=hrel
    have hlen:R.length=L4.length+(secB ((p.file i).take m)).length:=by rw [hR,List.length_append]
    have HRR:=Lib.hid hR
    have HLN:=Lib.hid hlen
    clear hR hlen
    obtain ⟨wq,rfl⟩:∃ wq,wq=wr:=⟨wr,rfl⟩
    by_cases hlm:m<(p.file i).length
    ·have d2:decide (m<(p.file i).length)=true:=by simpa using hlm
     obtain ⟨s,hs⟩:∃ s,(p.file i)[m]?=some s:=⟨_,List.getElem?_eq_getElem hlm⟩
     have hbq:Below w.heap.size w wq:=HW.out.2.trans (hB.mono HW.out.2.size)
     obtain ⟨af,u,hAf,_,hu,hcf⟩:=((HR.out.1.reads rfl).below hbq).at_ hlm
     subst hAf
     unfold strs at hu
     rw [List.getElem?_map,hs] at hu
     cases hu
     have hst:=secB_take_succ hs
     have hle:=secB_take_le (p.file i) (m+1)
     have hss:s.size=s.data.toList.length:=by rw [Array.length_toList];rfl
     have hbd9:R.length+s.size≤3000000:=by
      have h1:=HLN.out
      have h2:=HLL.out
      have h3:=HL5.out
      rw [hst,List.length_append] at hle
      omega
     have m0:(0:Int)≤(m:Int):=by omega
     have m1:(m:Int)<((p.file i).length:Int):=by omega
     have HST:=Lib.hid (And.intro hst hss)
     clear hs hst hle hss hbq
     go_wp2_with (at_builtin;refine Go.Lib.wpList_append_own_string _ rfl _ _ 36 101 rfl w3.heap.size 5 _ Tryz.underlying36 Tryz.underlying101 HHi.out.1 HHi.out.2.1 HHi.out.2.2.1 HHi.out.2.2.2 _ _ _ rfl ho s rfl (by simp only [maxLen];omega) (by omega) hB.size ?_;intro v12 w12 ho12 hg12 hl12;obtain ⟨A12,c12,rfl⟩:=own_formN ho12)
     all_goals
      have e12:(R++s.data.toList).length=R.length+s.size:=by rw [List.length_append,HST.out.2]
      have e13:R++s.data.toList=L4++secB ((p.file i).take (m+1)):=by rw [HRR.out,HST.out.1,List.append_assoc]
      have e14:bl R++Go.Lib.strCells s=bl (R++s.data.toList):=by rw [bl_append];rfl
      rw [e14] at ho12
      have HE:=Lib.hid (And.intro (hB.grown hg12 hB.size (fun k e=>(ho.lt k e).1)) (And.intro ho12 (And.intro e12 e13)))
      clear e12 e13 e14
      go_roundw
      case rel=>exact ⟨HE.out.1,m+1,A12,c12,R++s.data.toList,by omega,by go_num,HE.out.2.2.2,by rw [HE.out.2.2.1],by rw [HE.out.2.2.1];exact HE.out.2.1⟩
      case measure=>simp [intOf];omega
    ·have d2:decide (m<(p.file i).length)=false:=by simpa using hlm
     have hm':m=(p.file i).length:=by omega
     have e:R=saveL ((flOf p).take (k+1)):=by
      rw [HRR.out,HLS.out.1,←HL4.out,List.take_of_length_le (by omega)]
      show _=L++(putB nm++(putN (p.file i).length++secB (p.file i)))
      simp only [List.append_assoc]
     have HE:=Lib.hid (And.intro ho e)
     clear ho e hm'
     go_wp2
     go_roundw
     case rel=>exact ⟨hB,k+1,A,c,by omega,by go_num,by rw [←HE.out.2],by rw [←HE.out.2];exact HE.out.1⟩
     case measure=>simp [intOf];omega
  ·have d1:decide (k<(sN p.dir).length)=false:=by simpa using hlt
   have hk':k=(sN p.dir).length:=by omega
   have e:saveL ((flOf p).take k)=saveP p:=by
    unfold saveP
    rw [List.take_of_length_le (by unfold flOf;rw [List.length_map];omega)]
   have HE:=Lib.hid e
   clear e hk'
   go_wp2
   go_ret
   rw [←HE.out]
   exact ⟨_,rfl,own_le ho (HW.out.2.size),HW.out.2.trans (hb.mono HW.out.2.size)⟩
end
end
section
open Go.RowKit Go.Sort
theorem len_saveL:∀ (l:List Fl) (K:Nat),(∀ x∈l,(fileB x).length≤K)→(saveL l).length≤l.length*K
 | [],K,_=>by simp [saveL]
 | x::l,K,h=>by
  have e:saveL (x::l)=fileB x++saveL l:=by unfold saveL;rw [List.flatMap_cons]
  have h1:=h x List.mem_cons_self
  have h2:=len_saveL l K (fun y hy=>h y (List.mem_cons_of_mem _ hy))
  rw [e,List.length_append,List.length_cons,Nat.add_mul,Nat.one_mul]
  omega
theorem flOf_ok {p:DP} (h:WF p):∀ x∈flOf p,nameOK ⟨x.1.toArray⟩=true∧x.2.length≤4096∧∀ s∈x.2,s.size=64:=by
 intro x hx
 unfold flOf at hx
 obtain ⟨nm,hn,rfl⟩:=List.mem_map.1 hx
 obtain ⟨i,hf,_⟩:=sN_find hn
 obtain ⟨e,he,hnm⟩:=sN_mem hn
 have hfo:fileOf p nm=p.file i:=by unfold fileOf;rw [hf]
 refine ⟨?_,?_⟩
 ·show nameOK ⟨nm.toArray⟩=true
  rw [←hnm]
  exact h.dir.name e he
 ·show (fileOf p nm).length≤4096∧∀ s∈fileOf p nm,s.size=64
  rw [hfo]
  exact h.file_ok i
theorem nameOK_len {nm:List UInt8} (h:nameOK ⟨nm.toArray⟩=true):nm.length≤16:=by
 unfold nameOK at h
 simp [ByteArray.size] at h
 omega
theorem saveP_len {p:DP} (h:WF p):(saveP p).length≤3000000:=by
 have h1:=len_saveL (flOf p) 262200 (fun x hx=>by
  obtain ⟨o1,o2,o3⟩:=flOf_ok h x hx
  have l1:=nameOK_len o1
  have l2:=putN_len x.1.length
  have l3:=putN_len x.2.length
  have l4:=secB_len x.2 o3
  unfold fileB putB
  simp only [List.length_append]
  omega)
 have h2:(flOf p).length≤8:=by
  unfold flOf
  rw [List.length_map,sN_len]
  exact h.dir.len
 unfold saveP
 have h3:=Nat.mul_le_mul_right 262200 h2
 omega
theorem RSave_any {X:Nat→Prop} {w:World} {rb:Nat} {p:DP} (h:RA X w rb p) :
 Calls Tryz.prog 20 #[.pointer (some ⟨rb,0,none⟩)] w fun e w'=>∃ v,e=.returned v∧w'.ownsRow w.heap.size 5 1 v (saveP p).length (bl (saveP p))∧Below w.heap.size w w':=RSave_0 h (saveP_len h.wf)
theorem pd_wf {X:Nat→Prop} {w:World} {db:Nat} {p:DP} (h:PD X w db p):WF p:=by
 obtain ⟨_,_,_,_,_,_,_,_,_,_,_,ht⟩:=h
 exact ht.wf
theorem VSave_all {X:Nat→Prop} {w:World} {db:Nat} {p:DP} (h:PD X w db p) :
 Calls Tryz.prog 18 #[.pointer (some ⟨db,0,none⟩)] w fun e w'=>∃ v,e=.returned v∧w'.ownsRow w.heap.size 5 1 v (saveP p).length (bl (saveP p))∧Below w.heap.size w w':=VSave_any h (saveP_len (pd_wf h))
def dirF:Nat→List Fl→List En
 | _,[]=>[]
 | k,x::l=>⟨⟨x.1.toArray⟩,k⟩::dirF (k+1) l
def sumF (l:List Fl):Nat:=(l.map (·.2.length)).sum
def mkP (room:Int) (l:List Fl):DP:=⟨room,dirF 0 l,[],l.map (·.2),[],false,0,0⟩
def loadP (room:Int) (b:List UInt8):Option DP × Int :=
 if room<0∨4096<room then (none,2)
 else match loadL 9 [] 0 b with
  | none=>(none,44)
  | some l=>if room<(sumF l:Nat) then (none,42) else (some (mkP room l),0)
theorem dirF_len:∀ (k:Nat) (l:List Fl),(dirF k l).length=l.length
 | _,[]=>rfl
 | k,x::l=>by simp [dirF,dirF_len (k+1) l]
theorem dirF_names:∀ (k:Nat) (l:List Fl),(dirF k l).map (fun e=>e.nm.data.toList)=l.map (·.1)
 | _,[]=>rfl
 | k,x::l=>by simp [dirF,dirF_names (k+1) l]
theorem dirF_mem:∀ (k:Nat) (l:List Fl) (e:En),e∈dirF k l→∃ j x,l[j]?=some x∧e.nm=⟨x.1.toArray⟩∧e.id=k+j
 | _,[],e,h=>by simp [dirF] at h
 | k,x::l,e,h=>by
  simp only [dirF,List.mem_cons] at h
  rcases h with rfl | h
  ·exact ⟨0,x,rfl,rfl,rfl⟩
  ·obtain ⟨j,y,h1,h2,h3⟩:=dirF_mem (k+1) l e h
   exact ⟨j+1,y,by simpa using h1,h2,by omega⟩
theorem dirF_get:∀ (k:Nat) (l:List Fl) (j:Nat) (x:Fl),l[j]?=some x→(dirF k l)[j]?=some ⟨⟨x.1.toArray⟩,k+j⟩
 | _,[],j,x,h=>by simp at h
 | k,y::l,0,x,h=>by simp at h;subst h;rfl
 | k,y::l,j+1,x,h=>by
  have:=dirF_get (k+1) l j x (by simpa using h)
  simp only [dirF,List.getElem?_cons_succ]
  rw [this]
  simp;omega
structure FlOK (l:List Fl):Prop where
 len:l.length≤8
 ok:∀ x∈l,nameOK ⟨x.1.toArray⟩=true∧x.2.length≤4096∧∀ s∈x.2,s.size=64
 up:l.Pairwise (fun x y=>¬ y.1≤x.1)
theorem FlOK.of_load {f:Nat} {b:List UInt8} {l:List Fl} (h:loadL f [] 0 b=some l):FlOK l∧saveL l=b:=by
 obtain ⟨h1,h2,h3,_,h5⟩:=save_load f [] 0 b l h
 exact ⟨⟨by omega,h3,h5⟩,h1⟩
theorem FlOK.nodup {l:List Fl} (h:FlOK l):(l.map (·.1)).Nodup:=by
 rw [List.nodup_iff_pairwise_ne,List.pairwise_map]
 exact h.up.imp (fun {a b} hab e=>hab (by rw [e];exact List.le_refl _))
theorem names_dirF (k:Nat) (l:List Fl):names (dirF k l)=l.map fun x=>(⟨x.1.toArray⟩:ByteArray):=by
 induction l generalizing k with
 | nil=>rfl
 | cons x l ih=>simp [dirF,names] at ih ⊢;exact ih (k+1)
theorem mkP_wf {room:Int} {l:List Fl} (h:FlOK l) (hr:0≤room∧room≤4096):WF (mkP room l):=by
 refine ⟨⟨?_,?_,?_⟩,trivial,?_,fun x hx=>by simp [mkP] at hx,?_,hr⟩
 ·show (names (dirF 0 l)).Nodup
  rw [names_dirF]
  have:=h.nodup
  rw [List.nodup_iff_pairwise_ne,List.pairwise_map] at this ⊢
  exact this.imp (fun {a b} hab e=>hab (by
   have:=congrArg (fun z:ByteArray=>z.data.toList) e
   simpa using this))
 ·show (dirF 0 l).length≤8
  rw [dirF_len];exact h.len
 ·intro e he
  obtain ⟨j,x,h1,h2,_⟩:=dirF_mem 0 l e he
  rw [h2]
  exact (h.ok x (List.mem_of_getElem? h1)).1
 ·intro i hi
  unfold DP.live mkP at hi
  simp only [List.flatMap_nil,List.map_nil,List.append_nil,List.mem_map] at hi
  obtain ⟨e,he,rfl⟩:=hi
  obtain ⟨j,x,h1,_,h3⟩:=dirF_mem 0 l e he
  have:=(List.getElem?_eq_some_iff.1 h1).1
  show e.id<(l.map (·.2)).length
  rw [List.length_map]
  omega
 ·intro m hm
  obtain ⟨x,hx,rfl⟩:=List.mem_map.1 hm
  exact (h.ok x hx).2
end
section
open Go.RowKit Go.Sort
theorem sN_mkP {room:Int} {l:List Fl} (h:FlOK l):sN (mkP room l).dir=l.map (·.1):=by
 unfold sN mkP
 rw [dirF_names]
 refine List.mergeSort_of_pairwise ?_
 rw [List.pairwise_map]
 refine h.up.imp (fun {a b} hab=>?_)
 simp only [leB,decide_eq_true_eq]
 exact (List.le_total a.1 b.1).resolve_right hab
theorem findP_dirF:∀ (k:Nat) (l:List Fl),(l.map (·.1)).Nodup→∀ (j:Nat) (x:Fl),l[j]?=some x→findP ⟨x.1.toArray⟩ (dirF k l)=some (k+j)
 | _,[],_,j,x,h=>by simp at h
 | k,y::l,hn,0,x,h=>by
  simp at h
  subst h
  unfold dirF
  rw [findP_cons,if_pos rfl]
  rfl
 | k,y::l,hn,j+1,x,h=>by
  have hn':y.1∉l.map (·.1)∧(l.map (·.1)).Nodup:=List.nodup_cons.1 hn
  have hx:l[j]?=some x:=by simpa using h
  unfold dirF
  rw [findP_cons,if_neg,findP_dirF (k+1) l hn'.2 j x hx]
  ·congr 1;omega
  ·intro e
   have e':y.1=x.1:=by
    have:=congrArg (fun z:ByteArray=>z.data.toList) e
    simpa using this
   exact hn'.1 (by rw [e'];exact List.mem_map.2 ⟨x,List.mem_of_getElem? hx,rfl⟩)
theorem file_mkP {room:Int} {l:List Fl} (h:FlOK l) {j:Nat} {x:Fl} (hj:l[j]?=some x):fileOf (mkP room l) x.1=x.2:=by
 have hf:findP ⟨x.1.toArray⟩ (mkP room l).dir=some (0+j):=findP_dirF 0 l h.nodup j x hj
 unfold fileOf
 rw [hf]
 show (l.map (·.2)).getD (0+j) []=x.2
 rw [List.getD_eq_getElem?_getD,Nat.zero_add,List.getElem?_map,hj]
 rfl
theorem flOf_mkP {room:Int} {l:List Fl} (h:FlOK l):flOf (mkP room l)=l:=by
 unfold flOf
 rw [sN_mkP h,List.map_map]
 refine List.ext_getElem? fun j=>?_
 rw [List.getElem?_map]
 cases hj:l[j]? with
 | none=>rfl
 | some x =>
  show some (x.1,fileOf (mkP room l) x.1)=some x
  rw [file_mkP h hj]
theorem saveP_mkP {room:Int} {l:List Fl} (h:FlOK l):saveP (mkP room l)=saveL l:=by
 unfold saveP
 rw [flOf_mkP h]
theorem loadP_some {room:Int} {b:List UInt8} {y:DP} {e:Int} (h:loadP room b=(some y,e)):∃ l,FlOK l∧y=mkP room l∧saveL l=b∧e=0∧(0≤room∧room≤4096)∧loadL 9 [] 0 b=some l∧((sumF l:Nat):Int)≤room:=by
 unfold loadP at h
 split at h
 ·cases h
 ·rename_i hr
  split at h
  ·cases h
  ·rename_i l hl
   split at h
   ·cases h
   ·rename_i hs
    obtain ⟨h1,h2⟩:=FlOK.of_load hl
    have he:some (mkP room l)=some y∧(0:Int)=e:=by simpa using h
    obtain ⟨e1,e2⟩:=he
    exact ⟨l,h1,by cases e1;rfl,h2,e2.symm,by omega,hl,by omega⟩
theorem saveP_loadP {room:Int} {b:List UInt8} {y:DP} {e:Int} (h:loadP room b=(some y,e)):saveP y=b∧WF y:=by
 obtain ⟨l,h1,rfl,h3,_,h5,_,_⟩:=loadP_some h
 exact ⟨by rw [saveP_mkP h1,h3],mkP_wf h1 h5⟩
end
section
open Go.RowKit
section
variable {X X':Nat→Prop} {w w' w1 w2 w3:World} {rb:Nat} {vd vc vf vw:Value} {V:Nat→Value} {L:Nat→List (ByteArray × Value)} {W:List (PW × Value)} {nx:Int} {p:DP}
theorem RefN.pushEn (h:RefN X w rb vd vc vf vw V L W nx p) (hX:∀ k,X k→X' k) {v':Value} {l':List En} (hg:w.grownBy w3 vd.ownBlock) (hr:RowX X' w3 137 2 v' l'.length (encells l')) :
 RefN X' (w3.setCell ⟨rb,1,none⟩ v') rb v' vc vf vw V L W nx {p with dir:=l'}:=by
 have hs:Same (RTx 137) X w w3:=same_grown h.dir hg (fun e=>e.2 rfl)
 have hk:=kb_grown h.dir hg (by decide)
 have hb3:=hs rb _ _ ⟨rt_disk,by decide⟩ h.inX h.blk
 have hk2:=hk.trans (kb_set (o:=1) (u:=v') hb3 (by decide))
 exact ⟨by simpa using (show Blk w3 rb 72 _ from hb3).set_ 1 v',hX _ h.inX,hr.farset hb3 (by decide),(h.chs.same hs ⟨rt_ch,by decide⟩ hX).farset hb3 (by decide),(h.fl.same hs ⟨rt_fl,by decide⟩ hX).farset hb3 (by decide),(h.wrs.same hs ⟨rt_wr,by decide⟩ hX).farset hb3 (by decide),h.wp,fun y hy=>(h.ws y hy).keep hk2,h.lp,fun i hi y hy=>(h.ls i hi y hy).keep hk2,fun i hi=>((h.row i hi).same hs ⟨rt_ss,by decide⟩ hX).farset hb3 (by decide),h.inj⟩
theorem RefN.pushFlS (h:RefN X w rb vd vc vf vw V L W nx p) (hX:∀ k,X k→X' k) {v' vS:Value} {S:List (ByteArray × Value)} (hg:w.grownBy w3 vf.ownBlock) (hr:RowX X' w3 111 2 v' (p.files.length+1) (flcells V p.files.length++[.int .i64 p.files.length,vS]))
 (hv:RowX X' w3 36 1 vS S.length (S.map (·.2))) (hS:∀ y∈S,SecW w3 y.2 y.1) (hn:∀ i k,i<p.files.length→(V i).ownBlock=some k→vS.ownBlock=some k→False) :
 RefN X' (w3.setCell ⟨rb,3,none⟩ v') rb vd vc v' vw (updV V p.files.length vS) (fun i=>if i=p.files.length then S else L i) W nx {p with files:=p.files++[S.map (·.1)]}:=by
 have hs:Same (RTx 111) X w w3:=same_grown h.fl hg (fun e=>e.2 rfl)
 have hk:=kb_grown h.fl hg (by decide)
 have hb3:=hs rb _ _ ⟨rt_disk,by decide⟩ h.inX h.blk
 have hk1:KB w3 (w3.setCell ⟨rb,3,none⟩ v'):=kb_set (o:=3) (u:=v') hb3 (by decide)
 have hk2:=hk.trans hk1
 have hfile:∀ i,i<p.files.length→({p with files:=p.files++[S.map (·.1)]}:DP).file i=p.file i:=fun i hi=>by
  show (p.files++[S.map (·.1)]).getD i []=p.files.getD i []
  rw [List.getD_eq_getElem?_getD,List.getD_eq_getElem?_getD,List.getElem?_append_left hi]
 have hlt:∀ i,i<(p.files++[S.map (·.1)]).length→i<p.files.length∨i=p.files.length:=fun i hi=>by simp at hi;omega
 refine ⟨by simpa using (show Blk w3 rb 72 _ from hb3).set_ 3 v',hX _ h.inX,(h.dir.same hs ⟨rt_en,by decide⟩ hX).farset hb3 (by decide),(h.chs.same hs ⟨rt_ch,by decide⟩ hX).farset hb3 (by decide),?_,(h.wrs.same hs ⟨rt_wr,by decide⟩ hX).farset hb3 (by decide),h.wp,fun y hy=>(h.ws y hy).keep hk2,fun i hi=>?_,fun i hi y hy=>?_,fun i hi=>?_,fun i j k hi hj=>?_⟩
 ·have e:flcells (updV V p.files.length vS) (p.files.length+1)=flcells V p.files.length++[.int .i64 p.files.length,vS]:=by
   rw [fl_succ,fl_congr (V:=updV V p.files.length vS) (V':=V) (fun j hj=>by unfold updV;rw [if_neg (by omega)])]
   simp [flc,updV]
  show RowX X' _ 111 2 v' (p.files++[S.map (·.1)]).length (flcells _ (p.files++[S.map (·.1)]).length)
  rw [List.length_append,List.length_singleton,e]
  exact hr.farset hb3 (by decide)
 ·rcases hlt i hi with h1 | h1
  ·show _=(if i=p.files.length then S else L i).map (·.1)
   rw [hfile i h1,if_neg (by omega)];exact h.lp i h1
  ·subst h1
   show (p.files++[S.map (·.1)]).getD p.files.length []=(if p.files.length=p.files.length then S else L p.files.length).map (·.1)
   simp [List.getD_eq_getElem?_getD]
 ·have hy':y∈(if i=p.files.length then S else L i):=hy
  rcases hlt i hi with h1 | h1
  ·rw [if_neg (by omega)] at hy'
   exact (h.ls i h1 y hy').keep hk2
  ·rw [if_pos h1] at hy';exact (hS y hy').keep hk1
 ·show RowX X' _ 36 1 (updV V p.files.length vS i) (if i=p.files.length then S else L i).length ((if i=p.files.length then S else L i).map (·.2))
  unfold updV
  rcases hlt i hi with h1 | h1
  ·rw [if_neg (by omega),if_neg (by omega)]
   exact ((h.row i h1).same hs ⟨rt_ss,by decide⟩ hX).farset hb3 (by decide)
  ·rw [if_pos h1,if_pos h1];exact hv.farset hb3 (by decide)
 ·show (updV V p.files.length vS i).ownBlock=some k→(updV V p.files.length vS j).ownBlock=some k→i=j
  unfold updV
  rcases hlt i hi with h1 | h1 <;> rcases hlt j hj with h2 | h2
  ·rw [if_neg (by omega),if_neg (by omega)];exact h.inj i j k h1 h2
  ·rw [if_neg (by omega),if_pos h2];intro e1 e2;exact (hn i k h1 e1 e2).elim
  ·rw [if_pos h1,if_neg (by omega)];intro e1 e2;exact (hn j k h2 e2 e1).elim
  ·intros;omega
end
theorem mkP_add (room:Int) (l:List Fl) (x:Fl):mkP room (l++[x])={mkP room l with dir:=dirF 0 l++[⟨⟨x.1.toArray⟩,l.length⟩],files:=(mkP room l).files++[x.2]}:=by
 have:∀ (k:Nat) (l:List Fl),dirF k (l++[x])=dirF k l++[⟨⟨x.1.toArray⟩,k+l.length⟩]:=fun k l=>by
  induction l generalizing k with
  | nil=>rfl
  | cons y l ih =>
   rw [List.cons_append,dirF,ih,dirF,List.length_cons,List.cons_append]
   rw [show k+1+l.length=k+(l.length+1) by omega]
 unfold mkP
 rw [this,Nat.zero_add,List.map_append]
 rfl
end
section
open Go.RowKit
def low:List UInt8→Nat→Option Nat
 | [],_=>none
 | c::l,i=>if c.toNat<128 then some i else low l (i+1)
def lowI (l:List UInt8):Int:=match low l 0 with
 | some i=>i
 | none=>-1
theorem low_step:∀ {l:List UInt8} {i k:Nat},(∀ j y,j<k→l[j]?=some y→¬ y.toNat<128)→k≤l.length→low l i=low (l.drop k) (i+k)
 | l,i,0,_,_=>by simp
 | [],i,k+1,_,hk=>by simp at hk
 | x::l,i,k+1,h,hk=>by
  have h0:low (x::l) i=low l (i+1):=if_neg (h 0 x (by omega) rfl)
  rw [h0,List.drop_succ_cons,low_step (i:=i+1) (k:=k) (fun j y hj hy=>h (j+1) y (by omega) (by simpa using hy)) (by simpa using hk),show i+1+k=i+(k+1) by omega]
theorem low_hit {k:Nat} {l:List UInt8} {y:UInt8} (h:∀ j y,j<k→l[j]?=some y→¬ y.toNat<128) (hy:l[k]?=some y) (hq:y.toNat<128):lowI l=k:=by
 have hk:=(List.getElem?_eq_some_iff.1 hy).1
 have e:l.drop k=y::l.drop (k+1):=by
  rw [←(List.getElem?_eq_some_iff.1 hy).2,List.getElem_cons_drop]
 unfold lowI
 rw [low_step (i:=0) h (Nat.le_of_lt hk),e]
 unfold low
 rw [if_pos hq]
 simp
theorem low_none {l:List UInt8} (h:∀ j y,j<l.length→l[j]?=some y→¬ y.toNat<128):lowI l=-1:=by
 unfold lowI
 rw [low_step (i:=0) h (Nat.le_refl _),List.drop_length]
 rfl
set_option maxHeartbeats 1000000 in
theorem low_call (c:UInt8) (w:World):Calls Tryz.prog 107 #[.int .u8 c.toNat] w fun e w'=>e=.returned (.bool (decide (c.toNat<128)))∧w=w':=by
 have e:decide ((c.toNat:Int)<128)=decide (c.toNat<128):=by
  by_cases h:c.toNat<128
  ·rw [decide_eq_true h,decide_eq_true (by omega)]
  ·rw [decide_eq_false h,decide_eq_false (by omega)]
 go_enter Tryz.func107,Tryz.ntmps107
 go_wp2
 go_ret
 first
  | exact ⟨rfl,rfl⟩
  | exact ⟨by rw [←e],rfl⟩
set_option maxHeartbeats 2000000 in
set_option maxRecDepth 100000 in
theorem LowIndex_any {B:Nat} {w:World} (A:Option Addr) (c:Nat) (l:List UInt8) (hr:Reads w B 1 A l.length (bl l)) (hB:B≤w.heap.size) (hl:l.length≤1000) :
 Calls Tryz.prog 106 #[.slice A l.length c,.func (.func 107) #[] #[]] w fun e w'=>e=.returned (.int .i64 (lowI l))∧Below w.heap.size w w':=by
 go_enter Tryz.func106,Tryz.ntmps106
 go_wp2
 go_loopw [8] (fun i wr=>(∃ k,k≤l.length∧i=.int .i64 k∧(∀ j y,j<k→l[j]?=some y→¬ y.toNat<128))∧Below w.heap.size w wr) (fun i _=>l.length-(intOf i).toNat)
 case atStart=>exact ⟨⟨0,Nat.zero_le _,rfl,fun j y hj=>by omega⟩,Below.refl _ _⟩
 case round =>
  obtain ⟨⟨k,hk,rfl,hno⟩,hB1⟩:=hrel
  have HNO:=Lib.hid hno
  clear hno
  obtain ⟨wo,rfl⟩:∃ wo,wo=wr:=⟨wr,rfl⟩
  by_cases hlt:k<l.length
  ·have d1:decide (k<l.length)=true:=by simpa using hlt
   obtain ⟨y,hy⟩:∃ y,l[k]?=some y:=⟨_,List.getElem?_eq_getElem hlt⟩
   obtain ⟨ad,u,rfl,_,hu,hcs⟩:=(hr.below (hB1.mono hB)).at_ hlt
   unfold bl at hu
   rw [List.getElem?_map,hy] at hu
   cases hu
   have i0:(0:Int)≤(k:Int):=by omega
   have i1:(k:Int)<(l.length:Int):=by omega
   have hI:=low_call y
   by_cases hq:y.toNat<128
   ·rw [decide_eq_true hq] at hI
    have HQ:=Lib.hid (And.intro hq hy)
    clear hq hy
    go_wp2_with (go_at_call 107;refine (hI _).mono ?_;rintro e w9 ⟨rfl,rfl⟩)
    go_ret
    exact ⟨by rw [low_hit HNO.out HQ.out.2 HQ.out.1];rfl,by first | exact hB1.drew | exact hB1⟩
   ·rw [decide_eq_false hq] at hI
    have HQ:=Lib.hid (And.intro hq hy)
    clear hq hy
    go_wp2_with (go_at_call 107;refine (hI _).mono ?_;rintro e w9 ⟨rfl,rfl⟩)
    go_roundw
    case rel=>exact ⟨⟨k+1,by omega,by go_num,fun j z hj hz=>by
     by_cases e:j=k
     ·subst e;rw [HQ.out.2] at hz;cases hz;exact HQ.out.1
     ·exact HNO.out j z (by omega) hz⟩,by first | exact hB1.drew | exact hB1⟩
    case measure=>simp [intOf];omega
  ·have d1:decide (k<l.length)=false:=by simpa using hlt
   have hk':k=l.length:=by omega
   have HK:=Lib.hid hk'
   clear hk'
   go_wp2
   go_ret
   exact ⟨by rw [low_none (fun j y hj hy=>HNO.out j y (by rw [HK.out];exact hj) hy)];rfl,hB1⟩
end
section
open Go.RowKit
set_option maxHeartbeats 1000000 in
set_option maxRecDepth 100000 in
theorem BClone_some {B n:Nat} (a:Addr) (c:Nat) (l:List Value) (h1:∀ u∈l,u.oneCell'=true) (w:World) (hr:Reads w B 1 (some a) n l) (hB:B≤w.heap.size) (hl:n≤4000000) :
 Calls Tryz.prog 105 #[.slice (some a) n c] w fun e w'=>∃ A' c',e=.returned (.slice A' n c')∧w'.ownsRow w.heap.size 5 1 (.slice A' n c') n l∧Below w.heap.size w w':=by
 have hnil:∀ W:World,(binOp .eql 36 (.slice (some a) n c) (.slice none 0 0)).run Tryz.prog W=.ok (.bool false) W:=fun W=>(by first | exact Lib.run_eql_slice_nil W 36 5 _ _ _ _ _ Tryz.underlying36 | exact Lib.run_eql_slice_nil W 36 5 _ _ _ _ Tryz.underlying36)
 go_enter Tryz.func105,Tryz.ntmps105
 go_wp2_with (at_builtin;refine list_push8 TBy rfl rfl w.heap.size rfl (own_emptyH _ _ _ rfl (Nat.le_refl _)) rfl (hr.alloc hB _) h1 (by omega) (by simp) (Nat.zero_add _) (List.nil_append _) ?_;intro A1 c1 w1 hown1 hg1 hat1)
 clear hnil
 go_ret
 exact ⟨A1,c1,rfl,hown1,((Below.refl _ w).alloc (Nat.le_refl _) _).grown hg1 (by simp) (fun k e=>by cases e;exact Nat.le_refl _)⟩
def VGetOK:Prop:=∀ {B:Nat} (A:Option Addr) (cc:Nat) (b:List UInt8) (w:World),B≤w.heap.size→Reads w B 1 A b.length (bl b)→b.length≤3000000→b.length≤cc →
 Calls Tryz.prog 92 #[.slice A b.length cc] w fun e w'=>e=.returned (.tuple #[.int .u64 (getN b).1,.int .i64 (getN b).2.1,.int .i64 (getN b).2.2])∧Below w.heap.size w w'
set_option maxHeartbeats 4000000 in
set_option maxRecDepth 100000 in
theorem VGetB_of (hV:VGetOK) {B:Nat} (A:Option Addr) (cc:Nat) (b:List UInt8) (w:World) (hB:B≤w.heap.size) (hr:Reads w B 1 A b.length (bl b)) (hl:b.length≤3000000) (hcap:b.length≤cc) :
 Calls Tryz.prog 91 #[.slice A b.length cc] w fun e w'=>∃ v,e=.returned (.tuple #[v,.int .i64 (getB b).2.1,.int .i64 (getB b).2.2])∧w'.ownsRow w.heap.size 5 1 v (getB b).1.length (bl (getB b).1)∧Below w.heap.size w w':=by
 have hG:=hV A cc b w hB hr hl hcap
 have hpg:(getN b).2.2=0→(getN b).2.1≤b.length:=fun h=>(putN_getN h).2.1
 have hgb:getB b=if (getN b).2.2≠0 then ([],0,(getN b).2.2) else if b.length-(getN b).2.1<(getN b).1 then ([],0,10) else ((b.drop (getN b).2.1).take (getN b).1,(getN b).2.1+(getN b).1,0):=rfl
 have hk0':(getN b).2.2=0→0<(getN b).2.1:=fun h=>(putN_getN h).2.2.1
 obtain ⟨⟨n,k,e⟩,hg⟩:∃ g,getN b=g:=⟨_,rfl⟩
 rw [hg] at hG hpg hgb hk0'
 dsimp only at hG hpg hgb hk0'
 clear hg
 by_cases he:e=0
 ·subst he
  have hk:=hpg rfl
  clear hpg
  rw [if_neg (by simp)] at hgb
  have e1:IntKind.u64.wrap ((b.length:Int)-(k:Int))=((b.length-k:Nat):Int):=by rw [IntKind.wrap_u64];omega
  by_cases hn:b.length-k<n
  ·rw [if_pos hn] at hgb
   have d1:decide (((b.length-k:Nat):Int)<(n:Int))=true:=by simp;omega
   have HGB:=Lib.hid hgb
   clear hgb
   go_enter Tryz.func91,Tryz.ntmps91
   go_wp2_with (go_at_call 92;refine hG.mono ?_;rintro e w1 ⟨rfl,hb⟩)
   go_ret3
   rw [HGB.out]
   exact ⟨_,rfl,World.ownsRow_nil _ _ _ _,hb⟩
  ·rw [if_neg hn] at hgb
   have d1:decide (((b.length-k:Nat):Int)<(n:Int))=false:=by simp;omega
   have d1':decide (b.length-k<n)=false:=by simpa using hn
   have HGB:=Lib.hid hgb
   clear hgb
   have hk0:0<k:=hk0' rfl
   obtain ⟨a,rfl⟩:∃ a,A=some a:=by
    obtain ⟨a,e,_⟩:=hr.2 (by omega)
    exact ⟨a,e⟩
   have hsub:Reads w B 1 (some (a.add k)) n (bl ((b.drop k).take n)):=reads_sub (k:=k) (n:=n) hr (by omega)
   have e2:IntKind.i64.wrap (n:Int)=(n:Nat):=by rw [IntKind.wrap_i64];omega
   have hn9:n≤3000000:=by omega
   have hkn:k+n≤cc:=by omega
   have hlen:((b.drop k).take n).length=n:=by rw [List.length_take,List.length_drop];omega
   have HH:=Lib.hid (And.intro hlen hn)
   clear hn hlen hk0'
   by_cases hkc:k<cc
   ·go_enter Tryz.func91,Tryz.ntmps91
    go_wp2_with (first
     | (go_at_call 105;refine (BClone_some _ _ _ (bl_one _) w1 (hsub.below (hb.mono hB)) (Nat.le_trans hB hb.size) (by omega)).mono ?_;rintro e w2 ⟨A2,c2,rfl,ho2,hb2⟩)
     | (go_at_call 92;refine hG.mono ?_;rintro e w1 ⟨rfl,hb⟩))
    all_goals
     go_ret3
     rw [HGB.out]
     dsimp only
     rw [HH.out.1]
     exact ⟨_,rfl,own_le ho2 hb.size,hb.trans (hb2.mono hb.size)⟩
   ·have hkc':k=cc:=by omega
    subst hkc'
    have hn0:n=0:=by omega
    subst hn0
    go_enter Tryz.func91,Tryz.ntmps91
    go_wp2_with (first
     | (go_at_call 105;refine (BClone_some (B:=0) _ _ [] (fun u hu=>by cases hu) w1 ⟨by simp,fun h=>absurd h (by omega)⟩ (Nat.zero_le _) (by omega)).mono ?_;rintro e w2 ⟨A2,c2,rfl,ho2,hb2⟩)
     | (go_at_call 92;refine hG.mono ?_;rintro e w1 ⟨rfl,hb⟩))
    all_goals
     go_ret3
     rw [HGB.out]
     exact ⟨_,rfl,own_le ho2 hb.size,hb.trans (hb2.mono hb.size)⟩
 ·rw [if_pos he] at hgb
  have d1:(e != 0)=true:=by simpa using he
  have HGB:=Lib.hid hgb
  clear hgb hpg
  go_enter Tryz.func91,Tryz.ntmps91
  go_wp2_with (go_at_call 92;refine hG.mono ?_;rintro e w1 ⟨rfl,hb⟩)
  go_ret3
  rw [HGB.out]
  exact ⟨_,rfl,World.ownsRow_nil _ _ _ _,hb⟩
end
section
open Go.RowKit
def backN:List UInt8→Nat
 | []=>0
 | c::r=>backN r*128+c.toNat % 128
theorem low_ge:∀ (l:List UInt8) (i j:Nat),low l i=some j→i≤j∧j<i+l.length
 | [],i,j,h=>by simp [low] at h
 | c::l,i,j,h=>by
  unfold low at h
  split at h
  ·cases h;simp
  ·have:=low_ge l (i+1) j h
   simp only [List.length_cons]
   omega
def getV (i f:Nat) (b:List UInt8):Nat × Nat × Int:=match low (b.take f) i with
 | none=>if b.length<f then (0,0,10) else (0,0,11)
 | some j=>if j=9∧1<(b.getD (j-i) 0).toNat then (0,0,11) else if 0<j∧(b.getD (j-i) 0).toNat=0 then (0,0,12) else (backN (b.take (j-i+1)),j-i+1,0)
theorem getF_getV:∀ (f i:Nat) (b:List UInt8),f+i=10→0<f→getF f i b=getV i f b
 | 0,_,_,_,h=>absurd h (by omega)
 | f+1,i,[],_,_=>by simp [getF,getV,low]
 | f+1,i,c::r,hf,_=>by
  have hc:c.toNat<256:=c.toNat_lt
  by_cases h:c.toNat<128
  ·have e:low ((c::r).take (f+1)) i=some i:=by rw [List.take_succ_cons,low,if_pos h]
   unfold getV
   rw [e,getF]
   simp only [Nat.sub_self,List.getD_cons_zero,if_pos h]
   by_cases h9:i=9∧1<c.toNat
   ·rw [if_pos h9,if_pos h9]
   ·rw [if_neg h9,if_neg h9]
    by_cases h0:0<i∧c.toNat=0
    ·rw [if_pos h0,if_pos h0]
    ·rw [if_neg h0,if_neg h0]
     simp only [Nat.zero_add,List.take_succ_cons,List.take_zero,backN]
     rw [Nat.mod_eq_of_lt h]
     simp
  ·have e:low ((c::r).take (f+1)) i=low (r.take f) (i+1):=by rw [List.take_succ_cons,low,if_neg h]
   by_cases h9:i=9
   ·have hf0:f=0:=by omega
    subst hf0
    unfold getV
    rw [e,getF,if_pos ⟨h9,by omega⟩]
    simp [low]
   ·have ih:=getF_getV f (i+1) r (by omega) (by omega)
    unfold getV at ih ⊢
    rw [e,getF,if_neg (fun hh=>h9 hh.1),if_neg h,ih]
    cases hl:low (r.take f) (i+1) with
    | none =>
     by_cases hr:r.length<f
     ·have hr':(c::r).length<f+1:=by simp only [List.length_cons];omega
      simp only [if_pos hr,if_pos hr']
      simp
     ·have hr':¬ (c::r).length<f+1:=by simp only [List.length_cons];omega
      simp only [if_neg hr,if_neg hr']
      simp
    | some j =>
     have hj:=low_ge _ _ _ hl
     have ej:j-i=(j-(i+1))+1:=by omega
     simp only
     rw [ej,List.getD_cons_succ]
     by_cases a1:j=9∧1<(r.getD (j-(i+1)) 0).toNat
     ·simp only [if_pos a1];simp
     ·by_cases a2:0<j∧(r.getD (j-(i+1)) 0).toNat=0
      ·simp only [if_neg a1,if_pos a2];simp
      ·simp only [if_neg a1,if_neg a2,if_true,List.take_succ_cons,backN]
       refine Prod.ext ?_ rfl
       show c.toNat-128+128*_=_*128+c.toNat % 128
       omega
theorem getN_getV (b:List UInt8):getN b=getV 0 10 b:=getF_getV 10 0 b rfl (by omega)
end
section
open Go.RowKit Go.Shelf
attribute [local go_sem] Oper.semAt_some
def back (b:List UInt8) (k:Nat):List (Nat × UInt8):=(List.range k).map fun j=>(b.length-1-j,b.getD (b.length-1-j) 0)
theorem back_succ (b:List UInt8) (k:Nat):back b (k+1)=back b k++[(b.length-1-k,b.getD (b.length-1-k) 0)]:=by simp [back,List.range_succ]
theorem back_length (b:List UInt8) (k:Nat):(back b k).length=k:=by simp [back]
def KeepB (n₀ Bs:Nat) (A B:World):Prop:=Below n₀ A B∧B.cell? ⟨Bs,0,none⟩=A.cell? ⟨Bs,0,none⟩
set_option maxRecDepth 100000 in
set_option maxHeartbeats 2000000 in
theorem back1_in (F:Fence) (n:Nat) (hF:F.fn 115) (hro:F.round=none) (hn:1≤n) (l Bs n₀ cap:Nat) (a:Addr) (b:List UInt8) (hreach:b.length≤1000) (hb:a.block<n₀) (J Jx:List (Nat × UInt8)→World→Prop)
 (hY:∀ pre x W,J pre W→pre.length<b.length→YieldAt F (n-1) Tryz.prog l #[.int .i64 (x.1:Int),.int .u8 (x.2.toNat:Int)] W fun e W' =>
  (e=.returned (.bool true)∧J (pre++[x]) W'∧KeepB n₀ Bs W W')∨(e=.returned (.bool false)∧Jx (pre++[x]) W'))
 (W:World) (hBs:W.cell? ⟨Bs,0,none⟩=some (.slice (some a) b.length cap)) (hc:∀ j,j<b.length→W.cell? (a.add j)=some (.int .u8 ((b.getD j 0).toNat:Int))) (h0:J [] W) :
 CallsIn F n Tryz.prog 115 #[.func (.yield l) #[] #[],.pointer (some ⟨Bs,0,none⟩)] W fun e W'=>(∃ v,e=.returned v) ∧
  ((∃ ys,ys=back b b.length∧J ys W')∨(∃ pre,(∃ k,k≤b.length∧pre=back b k)∧Jx pre W')):=by
 refine callsIn_of_wp Tryz.func115 rfl hF ?_ hro
 simp only [Tryz.ntmps115,List.size_toArray,List.length_cons,List.length_nil,Nat.reduceAdd,Nat.reduceSub,Array.replicate_succ,Array.replicate_zero,List.push_toArray,List.append_toArray,List.nil_append,List.cons_append]
 gi_wp2
 gi_loopw [3] (fun i wr=>∃ k:Nat,k≤b.length∧i=.int .i64 ((b.length:Int)-1-(k:Int))∧J (back b k) wr∧KeepB n₀ Bs W wr)
  (fun i _=>(intOf i+1).toNat)
 case atStart=>exact ⟨0,Nat.zero_le _,by simp,h0,Below.refl _ _,rfl⟩
 case round =>
  obtain ⟨k,hk,rfl,hJs,hnx,hbx⟩:=hrel
  have hbs:=hbx.trans hBs
  by_cases hlt:k<b.length
  ·obtain ⟨m,hm⟩:∃ m,b.length-1-k=m:=⟨_,rfl⟩
   have e:(b.length:Int)-1-(k:Int)=(m:Nat):=by omega
   have hml:m<b.length:=by omega
   obtain ⟨y,hyv⟩:∃ y,b.getD m 0=y:=⟨_,rfl⟩
   obtain ⟨fn,tmps,assign,body,hy,hR⟩:=hY _ (m,y) wr hJs (by rw [back_length];exact hlt)
   dsimp only at hy
   have hcx:wr.cell? (a.add m)=some (.int .u8 ((b.getD m 0).toNat:Int)):=(hnx.cell (p:=a.add m) (by unfold Addr.add;split <;> exact hb)).trans (hc m hml)
   rw [hyv] at hcx
   have m0:(0:Int)≤(m:Int):=by omega
   have m1:(m:Int)<(b.length:Int):=by omega
   have HB:=Lib.hid hbx
   clear hbx
   have HM:=Lib.hid (And.intro hm (And.intro e hyv))
   rw [e]
   clear hm e hml hyv
   gi_wp2
   refine hR.mono ?_
   rintro e W3 (⟨rfl,hJ3,hk3⟩ | ⟨rfl,hJx3⟩)
   ·gi_wp2
    go_roundw
    case rel=>exact ⟨k+1,by omega,by have:=HM.out.2.1;first | (congr 1;omega) | go_num,by rw [back_succ,HM.out.1,HM.out.2.2];exact hJ3,hnx.trans hk3.1,hk3.2.trans HB.out⟩
    case measure=>have:=HM.out.2.1;first | (simp [intOf];done) | (simp [intOf];omega)
   ·gi_wp2
    refine bodyPost_ret (results_none rfl _ _ _) rfl ?_
    exact ⟨⟨_,rfl⟩,.inr ⟨_,⟨k+1,by omega,by rw [back_succ,HM.out.1,HM.out.2.2]⟩,hJx3⟩⟩
  ·obtain rfl:k=b.length:=by omega
   have e:(b.length:Int)-1-(b.length:Int)=-1:=by omega
   rw [e]
   clear e
   gi_wp2
   go_end0
   exact ⟨⟨_,rfl⟩,.inl ⟨_,rfl,hJs⟩⟩
end
section
open Go.RowKit Go.Shelf
attribute [local go_sem] Oper.semAt_some
theorem back_stops (F:Fence) (n:Nat) (hF:F.fn 115) (hro:F.round=none) (hn:1≤n) (Bs n₀ cap:Nat) (a:Addr) (b:List UInt8) (hreach:b.length≤1000) (w:World) (hBl:Bs<w.heap.size) (hn₀:n₀≤w.heap.size) (hb:a.block<n₀)
 (hBs:w.cell? ⟨Bs,0,none⟩=some (.slice (some a) b.length cap)) (hc:∀ j,j<b.length→w.cell? (a.add j)=some (.int .u8 ((b.getD j 0).toNat:Int))) :
 SeqStopsK F n Tryz.prog 115 #[.pointer (some ⟨Bs,0,none⟩)] (fun x:Nat × UInt8=>#[Value.int .i64 (x.1:Int),Value.int .u8 (x.2.toNat:Int)]) (KeepB n₀ Bs) (fun ys=>ys=back b b.length)
  (fun pre=>∃ k,k≤b.length∧pre=back b k) b.length w:=fun l J Jx W hW _ _ hY h0=>by
 have hBs':=(hW.cell (p:=⟨Bs,0,none⟩) hBl).trans hBs
 have hc':∀ j,j<b.length→W.cell? (a.add j)=some (.int .u8 ((b.getD j 0).toNat:Int)):=fun j hj=>(hW.cell (p:=a.add j) (by unfold Addr.add;split <;> exact Nat.lt_of_lt_of_le hb hn₀)).trans (hc j hj)
 exact back1_in F n hF hro hn l Bs n₀ cap a b hreach hb J Jx hY W hBs' hc' h0
set_option maxHeartbeats 1000000 in
theorem back_go (A:Option Addr) (n c:Nat) (w:World):Calls Tryz.prog 108 #[.slice A n c] w fun e w'=>e=.returned (.func (.func 115) #[] #[.pointer (some ⟨w.heap.size,0,none⟩)])∧w'=w.alloc (.cells #[.slice A n c] 36):=by
 go_enter Tryz.func108,Tryz.ntmps108
 go_wp2
 go_ret
 exact ⟨rfl,rfl⟩
def accN (pre:List (Nat × UInt8)):Nat:=pre.foldl (fun n x=>n*128+x.2.toNat % 128) 0
theorem accN_snoc (pre:List (Nat × UInt8)) (x:Nat × UInt8):accN (pre++[x])=accN pre*128+x.2.toNat % 128:=by simp [accN]
theorem backN_acc (b:List UInt8):∀ k,k≤b.length→accN (back b k)=backN (b.drop (b.length-k))
 | 0,_=>by simp [back,accN,backN]
 | k+1,h=>by
  rw [back_succ,accN_snoc,backN_acc b k (by omega)]
  have hlt:b.length-1-k<b.length:=by omega
  have e:b.drop (b.length-(k+1))=b[b.length-1-k]::b.drop (b.length-k):=by
   rw [show b.length-(k+1)=b.length-1-k by omega,show b.length-k=b.length-1-k+1 by omega,List.getElem_cons_drop]
  rw [e,backN]
  have e2:b.getD (b.length-1-k) 0=b[b.length-1-k]:=by rw [List.getD_eq_getElem?_getD,List.getElem?_eq_getElem hlt];rfl
  rw [e2]
theorem backN_all (b:List UInt8):accN (back b b.length)=backN b:=by
 rw [backN_acc b b.length (Nat.le_refl _),Nat.sub_self,List.drop_zero]
theorem backN_lt:∀ (b:List UInt8),backN b<128 ^ b.length
 | []=>by simp [backN]
 | c::r=>by
  have:=backN_lt r
  rw [backN,List.length_cons,Nat.pow_succ]
  omega
theorem keepB_t {n₀ Bs:Nat} {A B C:World} (h:KeepB n₀ Bs A B) (h2:KeepB n₀ Bs B C):KeepB n₀ Bs A C:=⟨h.1.trans h2.1,h2.2.trans h.2⟩
end
section
open Go.RowKit Go.Shelf
attribute [local go_sem] Oper.semAt_some
theorem reads_take {B:Nat} {w:World} {A:Option Addr} {b:List UInt8} {n:Nat} (h:Reads w B 1 A b.length (bl b)) (hn:n≤b.length):Reads w B 1 A n (bl (b.take n)):=by
 refine ⟨by rw [bl_len,List.length_take];omega,fun h0=>?_⟩
 obtain ⟨a,e,h1,h2⟩:=h.2 (by omega)
 refine ⟨a,e,h1,fun j x hj=>h2 j x ?_⟩
 unfold bl at hj ⊢
 rw [List.getElem?_map] at hj ⊢
 rw [List.getElem?_take] at hj
 split at hj
 ·exact hj
 ·simp at hj
set_option maxHeartbeats 4000000 in
set_option maxRecDepth 100000 in
theorem VGet_short {B:Nat} (A:Option Addr) (cc:Nat) (b:List UInt8) (w:World) (hB:B≤w.heap.size) (hr:Reads w B 1 A b.length (bl b)) (hcap:b.length≤cc) (hl:b.length<10) (hi:low b 0=none) :
 Calls Tryz.prog 92 #[.slice A b.length cc] w fun e w'=>e=.returned (.tuple #[.int .u64 0,.int .i64 0,.int .i64 10])∧Below w.heap.size w w':=by
 have hI:=LowIndex_any A cc b hr hB (by omega)
 have e:lowI b=-1:=by unfold lowI;rw [hi]
 rw [e] at hI
 have hmin:min (b.length:Int) 10=(b.length:Int):=by omega
 have b1:(b.length:Int)<10:=by omega
 refine (callsIn_wide (n:=3)).1 ?_
 refine callsIn_of_wp_marks Tryz.func92 rfl trivial ?_ rfl
 simp only [Tryz.ntmps92,List.size_toArray,List.length_cons,List.length_nil,Nat.reduceAdd,Nat.reduceSub,Array.replicate_succ,Array.replicate_zero,List.push_toArray,List.append_toArray,List.nil_append,List.cons_append]
 gi_wp2_with (refine ⟨trivial,?_⟩;gi_at_call 106;refine (callsIn_wide.2 hI).mono ?_;rintro e w1 ⟨rfl,hb⟩)
 refine ⟨_,results_tmp3 rfl _ _ _,?_⟩
 exact ⟨rfl,hb⟩
set_option maxHeartbeats 4000000 in
set_option maxRecDepth 100000 in
theorem VGet_wide {B:Nat} (A:Option Addr) (cc:Nat) (b:List UInt8) (w:World) (hB:B≤w.heap.size) (hr:Reads w B 1 A b.length (bl b)) (hcap:b.length≤cc) (hl:10≤b.length) (hi:low (b.take 10) 0=none) :
 Calls Tryz.prog 92 #[.slice A b.length cc] w fun e w'=>e=.returned (.tuple #[.int .u64 0,.int .i64 0,.int .i64 11])∧Below w.heap.size w w':=by
 have hl10:(b.take 10).length=10:=by rw [List.length_take];omega
 have hI:=LowIndex_any A cc (b.take 10) (by rw [hl10];exact reads_take hr hl) hB (by omega)
 have e:lowI (b.take 10)=-1:=by unfold lowI;rw [hi]
 rw [e,hl10] at hI
 have hmin:min (b.length:Int) 10=10:=by omega
 have b0:10≤cc:=by omega
 clear hi e hl10
 refine (callsIn_wide (n:=3)).1 ?_
 refine callsIn_of_wp_marks Tryz.func92 rfl trivial ?_ rfl
 simp only [Tryz.ntmps92,List.size_toArray,List.length_cons,List.length_nil,Nat.reduceAdd,Nat.reduceSub,Array.replicate_succ,Array.replicate_zero,List.push_toArray,List.append_toArray,List.nil_append,List.cons_append]
 gi_wp2_with (refine ⟨trivial,?_⟩;gi_at_call 106;refine (callsIn_wide.2 hI).mono ?_;rintro e w1 ⟨rfl,hb⟩)
 refine ⟨_,results_tmp3 rfl _ _ _,?_⟩
 exact ⟨rfl,hb⟩
set_option maxHeartbeats 4000000 in
set_option maxRecDepth 100000 in
theorem VGet_form {B:Nat} (a:Addr) (cc L j:Nat) (b:List UInt8) (w:World) (hB:B≤w.heap.size) (hr:Reads w B 1 (some a) b.length (bl b)) (hcap:b.length≤cc) (hL:L=min b.length 10) (hi:low (b.take 10) 0=some j) (hj:0<j) (h0:(b.getD j 0).toNat=0) :
 Calls Tryz.prog 92 #[.slice (some a) b.length cc] w fun e w'=>e=.returned (.tuple #[.int .u64 0,.int .i64 0,.int .i64 12])∧Below w.heap.size w w':=by
 have hl10:(b.take 10).length=L:=by rw [List.length_take];omega
 have hI:=LowIndex_any (some a) cc (b.take 10) (by rw [hl10];have:=reads_take (n:=L) hr (by omega);rwa [show b.take L=b.take 10 by rw [hL,Nat.min_comm,←List.take_take,List.take_length]] at this) hB (by omega)
 have e:lowI (b.take 10)=j:=by unfold lowI;rw [hi]
 rw [e,hl10] at hI
 have hjl:=(low_ge _ _ _ hi).2
 rw [hl10] at hjl
 have hmin:min (b.length:Int) 10=(L:Int):=by omega
 have hjb:j<b.length:=by omega
 have hc:w.cell? (a.add j)=some (.int .u8 0):=by
  obtain ⟨a',e',_,h2⟩:=hr.2 (by omega)
  cases e'
  rw [h2 j (.int .u8 ((b.getD j 0).toNat:Int)) (by unfold bl;rw [List.getElem?_map,List.getElem?_eq_getElem hjb,List.getD_eq_getElem?_getD,List.getElem?_eq_getElem hjb];rfl),h0]
  rfl
 have b0:L≤cc:=by omega
 have b1:L≤b.length:=by omega
 have j0:(0:Int)≤(j:Int):=by omega
 have j1:(j:Int)<(L:Int):=by omega
 have j2:¬ (j:Int)<0:=by omega
 have j3:(0:Int)<(j:Int):=by omega
 have hcw:∀ W,Below w.heap.size w W→W.cell? (a.add j)=some (.int .u8 0):=fun W hW=>(hW.cell (World.block_lt_of_cell? w _ hc)).trans hc
 clear hi e hl10 hL hjb h0
 refine (callsIn_wide (n:=3)).1 ?_
 refine callsIn_of_wp_marks Tryz.func92 rfl trivial ?_ rfl
 simp only [Tryz.ntmps92,List.size_toArray,List.length_cons,List.length_nil,Nat.reduceAdd,Nat.reduceSub,Array.replicate_succ,Array.replicate_zero,List.push_toArray,List.append_toArray,List.nil_append,List.cons_append]
 by_cases h9:j=9
 ·subst h9
  gi_wp2_with (refine ⟨trivial,?_⟩;gi_at_call 106;refine (callsIn_wide.2 hI).mono ?_;rintro e w1 ⟨rfl,hb⟩;have hcx:=hcw w1 hb;have hcz:w1.cell? ⟨a.block,a.off+9,none⟩=some (.int .u8 0):=(by simpa [Addr.add] using hcx))
  refine ⟨_,results_tmp3 rfl _ _ _,?_⟩
  exact ⟨rfl,hb⟩
 ·have d9:¬ (j:Int)=9:=by omega
  gi_wp2_with (refine ⟨trivial,?_⟩;gi_at_call 106;refine (callsIn_wide.2 hI).mono ?_;rintro e w1 ⟨rfl,hb⟩;have hcx:=hcw w1 hb)
  refine ⟨_,results_tmp3 rfl _ _ _,?_⟩
  exact ⟨rfl,hb⟩
set_option maxHeartbeats 4000000 in
set_option maxRecDepth 100000 in
theorem VGet_nine {B:Nat} (a:Addr) (cc:Nat) (b:List UInt8) (w:World) (hB:B≤w.heap.size) (hr:Reads w B 1 (some a) b.length (bl b)) (hcap:b.length≤cc) (hl:10≤b.length) (hi:low (b.take 10) 0=some 9) {y:Nat} (hy:(b.getD 9 0).toNat=y) (h1:1<y) :
 Calls Tryz.prog 92 #[.slice (some a) b.length cc] w fun e w'=>e=.returned (.tuple #[.int .u64 0,.int .i64 0,.int .i64 11])∧Below w.heap.size w w':=by
 have hl10:(b.take 10).length=10:=by rw [List.length_take];omega
 have hI:=LowIndex_any (some a) cc (b.take 10) (by rw [hl10];exact reads_take hr hl) hB (by omega)
 have e:lowI (b.take 10)=9:=by unfold lowI;rw [hi];rfl
 rw [e,hl10] at hI
 have hmin:min (b.length:Int) 10=10:=by omega
 have hc:w.cell? (a.add 9)=some (.int .u8 (y:Nat)):=by
  obtain ⟨a',e',_,h2⟩:=hr.2 (by omega)
  cases e'
  rw [h2 9 (.int .u8 ((b.getD 9 0).toNat:Int)) (by unfold bl;rw [List.getElem?_map,List.getElem?_eq_getElem (by omega),List.getD_eq_getElem?_getD,List.getElem?_eq_getElem (by omega)];rfl),hy]
 have b0:10≤cc:=by omega
 have y1:(1:Int)<(y:Int):=by omega
 have hcw:∀ W,Below w.heap.size w W→W.cell? (a.add 9)=some (.int .u8 (y:Nat)):=fun W hW=>(hW.cell (World.block_lt_of_cell? w _ hc)).trans hc
 clear hi e hl10 hy
 refine (callsIn_wide (n:=3)).1 ?_
 refine callsIn_of_wp_marks Tryz.func92 rfl trivial ?_ rfl
 simp only [Tryz.ntmps92,List.size_toArray,List.length_cons,List.length_nil,Nat.reduceAdd,Nat.reduceSub,Array.replicate_succ,Array.replicate_zero,List.push_toArray,List.append_toArray,List.nil_append,List.cons_append]
 gi_wp2_with (refine ⟨trivial,?_⟩;gi_at_call 106;refine (callsIn_wide.2 hI).mono ?_;rintro e w1 ⟨rfl,hb⟩;have hcx:=hcw w1 hb;have hcz:w1.cell? ⟨a.block,a.off+9,none⟩=some (.int .u8 (y:Nat)):=(by simpa [Addr.add] using hcx))
 refine ⟨_,results_tmp3 rfl _ _ _,?_⟩
 exact ⟨rfl,hb⟩
end
end Go.Proofs.YtekajggjoeimoaaGreatDoor
