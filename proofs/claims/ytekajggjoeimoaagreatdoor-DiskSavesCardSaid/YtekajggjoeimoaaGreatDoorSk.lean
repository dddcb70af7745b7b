/- A part of the proof of DiskSaves. No condition of its own. -/
import Derived.Test.YtekajggjoeimoaaGreatDoorSj
import Derived.Test.YtekajggjoeimoaaGreatDoorSi
import Derived.Shelf.SlGeneric
import Derived.Shelf.SlIter.Nil
import Derived.Shelf.SortM.Plain
import Derived.Shelf.SortM.SortNone
import Derived.Ground.GgzProg
import Derived.Ground.SlgmProg
import Derived.Test.YtekajggjoeimoaaGreatDoorProg
set_option linter.unusedVariables false
namespace Go.Proofs.YtekajggjoeimoaaGreatDoor
section
open Go.RowKit
section
variable {X X':Nat→Prop} {w w' w1 w2 w3:World} {rb:Nat} {vd vc vf vw:Value} {V:Nat→Value} {L:Nat→List (ByteArray × Value)} {W:List (PW × Value)} {nx:Int} {p:DP}
theorem fl_one (k:Nat):∀ u∈[Value.int .i64 k,.slice none 0 0],u.oneCell'=true:=by
 intro u hu
 simp only [List.mem_cons,List.not_mem_nil,or_false] at hu
 rcases hu with rfl | rfl <;> rfl
theorem ch_one (c:Ch):∀ u∈c.cells,u.oneCell'=true:=by
 intro u hu
 rw [Ch.cells_eq] at hu
 simp only [List.mem_cons,List.not_mem_nil,or_false] at hu
 rcases hu with rfl | rfl | rfl | rfl <;> rfl
theorem blk_cells {W:World} {rb:Nat} {a0 a1 a2 a3 a4 a5 a6 a7 a8:Value} (h:Blk W rb 72 #[a0,a1,a2,a3,a4,a5,a6,a7,a8]):W.cell? ⟨rb,2,none⟩=some a2∧W.cell? ⟨rb,3,none⟩=some a3∧W.cell? ⟨rb,4,none⟩=some a4∧W.cell? ⟨rb,5,none⟩=some a5:=⟨h.cell 2,h.cell 3,h.cell 4,h.cell 5⟩
theorem fr_more (h:Fr X w w1) {Y:Nat→Prop} (h2:Fr Y w1 w2) (hY:∀ k,Y k→X k∨w.heap.size≤k):Fr X w w2 :=
 ⟨h2.os.trans h.os,h2.tape.trans h.tape,h2.output.trans h.output,Nat.le_trans h.size h2.size,fun k hk hx=>(h2.block k (Nat.lt_of_lt_of_le hk h.size) (fun hy=>(hY k hy).elim hx (fun h=>by omega))).trans (h.block k hk hx)⟩
set_option maxHeartbeats 4000000 in
set_option maxRecDepth 100000 in
theorem RCreate_any (h:RA X w rb p) (nm:ByteArray) (hs:nm.size≤1000000) :
 Calls Tryz.prog 35 #[.pointer (some ⟨rb,0,none⟩),.string nm] w fun e w'=>e=.returned (.int .i64 (createP p nm).1)∧RL X w rb (createP p nm).2 w':=by
 obtain ⟨⟨vd,vc,vf,vw,V,L,W,hv⟩,hw,hlt,hnb,ha,hc,hww,hfl⟩:=h
 obtain ⟨w1,hF,hR,hN⟩:=RFails_any hv ha
 have hw1:=hw.fail
 obtain ⟨f1,f2,f3,f4,f5⟩:=failP_files p
 simp only [createP]
 by_cases e1:(failP p).1≠0
 ·rw [if_pos e1]
  have d1:((failP p).1 != 0)=true:=by simpa using e1
  go_enter Tryz.func35,Tryz.ntmps35
  go_wp2_with (go_at_call 85;refine hF.mono ?_;rintro e w9 ⟨rfl,h9⟩;obtain rfl:w1=w9:=h9.symm)
  go_ret
  exact ⟨rfl,hv.step hN (Below.refl _ _) hR⟩
 ·rw [if_neg e1]
  have e0:(failP p).1=0:=by simpa using e1
  rw [e0] at hF
  have hI:=RId_any hR hw1 (by rw [f2];exact hc) nm
  have hM:=RName_any nm hs
  obtain ⟨q,hq⟩:∃ q,(failP p).2=q:=⟨_,rfl⟩
  rw [hq] at hR hw1 hI f1 f2 f4 ⊢
  have hqc:q.chs.length≤1000:=by rw [f2];exact hc
  have hqf:q.files.length≤1000:=by rw [f1];exact hfl
  clear f1 f2 f3 f4 f5 hq
  cases hn:nameOK nm with
  | false =>
   rw [hn] at hM
   rw [if_pos rfl]
   go_enter Tryz.func35,Tryz.ntmps35
   go_wp2_with (first
    | (go_at_call 85;refine hF.mono ?_;rintro e w9 ⟨rfl,h9⟩;obtain rfl:w1=w9:=h9.symm)
    | (go_at_call 63;refine hI.mono ?_;rintro e w2 ⟨rfl,hb2⟩)
    | (go_at_call 68;refine (hM _).mono ?_;rintro e w8 ⟨rfl,rfl⟩))
   go_ret
   exact ⟨rfl,hv.step hN hb2 hR⟩
  | true =>
   rw [hn] at hM
   rw [if_neg (by simp)]
   cases hfd:findP nm q.now with
   | some i =>
    rw [hfd] at hI
    rw [if_pos (by rfl)]
    go_enter Tryz.func35,Tryz.ntmps35
    go_wp2_with (first
     | (go_at_call 85;refine hF.mono ?_;rintro e w9 ⟨rfl,h9⟩;obtain rfl:w1=w9:=h9.symm)
     | (go_at_call 63;refine hI.mono ?_;rintro e w2 ⟨rfl,hb2⟩)
     | (go_at_call 68;refine (hM _).mono ?_;rintro e w8 ⟨rfl,rfl⟩))
    go_ret
    exact ⟨rfl,hv.step hN hb2 hR⟩
   | none =>
    rw [hfd] at hI
    rw [if_neg (by simp)]
    have hNw:∀ W0,Below w1.heap.size w1 W0→Calls Tryz.prog 86 #[.pointer (some ⟨rb,0,none⟩)] W0 fun e w'=>∃ A c,e=.returned (.slice A q.now.length c)∧Below W0.heap.size W0 w':=fun W0 hb=>by
     refine (RNow_any (hR.below hb) hw1 hqc).mono ?_
     rintro e w' ⟨v,rfl,hr,hb'⟩
     obtain ⟨A,c,rfl⟩:=hr.form
     exact ⟨A,c,rfl,hb'⟩
    have hlen:=hw1.now.len
    by_cases h8:8≤q.now.length
    ·rw [if_pos h8]
     have d8:decide ((8:Int)≤(q.now.length:Int))=true:=by simp;omega
     go_enter Tryz.func35,Tryz.ntmps35
     go_wp2_with (first
      | (go_at_call 85;refine hF.mono ?_;rintro e w9 ⟨rfl,h9⟩;obtain rfl:w1=w9:=h9.symm)
      | (go_at_call 63;refine hI.mono ?_;rintro e w2 ⟨rfl,hb2⟩)
      | (go_at_call 68;refine (hM _).mono ?_;rintro e w8 ⟨rfl,rfl⟩)
      | (go_at_call 86;refine (hNw _ hb2).mono ?_;rintro e w3 ⟨A3,c3,rfl,hb3⟩))
     go_ret
     exact ⟨rfl,hv.step hN (hb2.trans (hb3.mono hb2.size)) hR⟩
    ·rw [if_neg h8]
     have d8:decide ((8:Int)≤(q.now.length:Int))=false:=by simp;omega
     go_enter Tryz.func35,Tryz.ntmps35
     go_wp2_with (first
      | (go_at_call 85;refine hF.mono ?_;rintro e w9 ⟨rfl,h9⟩;obtain rfl:w1=w9:=h9.symm)
      | (go_at_call 63;refine hI.mono ?_;rintro e w2 ⟨rfl,hb2⟩)
      | (go_at_call 68;refine (hM _).mono ?_;rintro e w8 ⟨rfl,rfl⟩)
      | (go_at_call 86;refine (hNw _ hb2).mono ?_;rintro e w3 ⟨A3,c3,rfl,hb3⟩;have hR3:=(hR.below (hb2.trans (hb3.mono hb2.size))).n;obtain ⟨k2,k3,k4,k5⟩:=blk_cells hR3.blk))
     obtain ⟨A5,c5,rfl⟩:=hR3.fl.form
     obtain ⟨A6,c6,rfl⟩:=hR3.chs.form
     have b3:=hR3.blk
     have hR4:=hR3.below ((Below.refl _ w3).alloc (Nat.le_refl _) (.cells #[.int .i64 q.files.length,.slice none 0 0] 111)).drew
     refine regionE 12 (fun W=>W.cell? ⟨rb,3,none⟩=some (.slice A5 q.files.length c5)∧W.cell? ⟨rb,5,none⟩=some (.int .i64 q.files.length)) (by kernel_rfl) (by kernel_rfl) (by kernel_rfl) (by kernel_rfl) (by kernel_rfl) (⟨k3,k5⟩) (fun hHeld hTl=>?_)
     refine tkT 0 (v:=?_) hTl hHeld rfl ?_ (fun hTl=>?_);rotate_left
     ·intro w hSw;(try dsimp only at hSw);go_simp;all_goals with_reducible rfl
     try simp only [pT]
     refine tkT 1 (v:=?_) hTl hHeld rfl ?_ (fun hTl=>?_);rotate_left
     ·intro w hSw;(try dsimp only at hSw);go_simp;all_goals with_reducible rfl
     try simp only [pT]
     refine tkT 2 (v:=?_) hTl hHeld rfl ?_ (fun hTl=>?_);rotate_left
     ·intro w hSw;(try dsimp only at hSw);go_simp;all_goals with_reducible rfl
     try simp only [pT]
     refine tkT 3 (v:=?_) hTl hHeld rfl ?_ (fun hTl=>?_);rotate_left
     ·intro w hSw;(try dsimp only at hSw);go_simp;all_goals with_reducible rfl
     try simp only [pT]
     refine tkT 4 (v:=?_) hTl hHeld rfl ?_ (fun hTl=>?_);rotate_left
     ·intro w hSw;(try dsimp only at hSw);go_simp;all_goals with_reducible rfl
     try simp only [pT]
     refine tkT 5 (v:=?_) hTl hHeld rfl ?_ (fun hTl=>?_);rotate_left
     ·intro w hSw;(try dsimp only at hSw);go_simp;all_goals with_reducible rfl
     try simp only [pT]
     refine tkT 6 (v:=?_) hTl hHeld rfl ?_ (fun hTl=>?_);rotate_left
     ·intro w hSw;(try dsimp only at hSw);go_simp;all_goals with_reducible rfl
     try simp only [pT]
     refine tkT 7 (v:=?_) hTl hHeld rfl ?_ (fun hTl=>?_);rotate_left
     ·intro w hSw;(try dsimp only at hSw);go_simp;all_goals with_reducible rfl
     try simp only [pT]
     refine tkT 8 (v:=?_) hTl hHeld rfl ?_ (fun hTl=>?_);rotate_left
     ·intro w hSw;(try dsimp only at hSw);go_simp;all_goals with_reducible rfl
     try simp only [pT]
     refine tkT 9 (v:=?_) hTl hHeld rfl ?_ (fun hTl=>?_);rotate_left
     ·intro w hSw;(try dsimp only at hSw);go_simp;all_goals with_reducible rfl
     try simp only [pT]
     clear hTl
     refine oneE 10 rfl (by kernel_rfl) (fun K hK=>?_)
     go_simp
     refine hK.out _ _ (fun _=>⟨(b3.alloc _).cell 3,(b3.alloc _).cell 5⟩) ?_
     clear hK K
     try simp only [pT]
     refine oneE 11 rfl (by kernel_rfl) (fun K hK=>?_)
     refine step_push TFl (by rfl) (by rfl) 0 (by rfl) hR4.fl.1 (by rfl) (reads_blk (cs:=#[.int .i64 q.files.length,.slice none 0 0]) (blk_drew (Blk.new w3 _ _)) rfl) (fl_one _) (by omega) (Nat.zero_le _) rfl (ys:=flcells V q.files.length++[.int .i64 q.files.length,.slice none 0 0]) rfl ?_
     intro A7 c7 w7 ho7 hg7 hl7;have b7:=blk_grown hR4.blk hg7 (blk_apart hR4.blk hR4.fl (by decide)).symm;have z7:=b7.cell 3;have y7:=b7.frozen 3
     refine hK.out _ _ (fun _=>⟨b7.cell 3,b7.cell 5⟩) ?_
     clear hK K
     try simp only [pT]
     refine oneE 12 rfl (by kernel_rfl) (fun K hK=>?_)
     go_simp
     refine hK.out _ _ (fun h=>absurd h (by decide)) ?_
     clear hK K
     try simp only [pT]
     refine oneE 13 rfl (by kernel_rfl) (fun K hK=>?_)
     go_simp
     refine hK.out _ _ (fun h=>absurd h (by decide)) ?_
     clear hK K
     try simp only [pT]
     refine oneE 14 rfl (by kernel_rfl) (fun K hK=>?_)
     go_simp
     refine hK.out _ _ (fun h=>absurd h (by decide)) ?_
     clear hK K
     try simp only [pT]
     refine doneE (by kernel_rfl) ?_ _
     have hR7:=hR4.pushFl (fun _ h=>more_left h) hg7 (push_own hR4.fl (Nat.le_refl _) ho7 hl7)
     have hs7:=hg7.size
     obtain ⟨W8,hW8⟩:∃ W,w7.setCell ⟨rb,3,none⟩ (.slice A7 (q.files.length+1) c7)=W:=⟨_,rfl⟩
     have hs8:W8.heap.size=w7.heap.size:=by rw [←hW8];simp [World.setCell]
     have fr8:Fr X w W8:=by
      have g1:Fr X w w3:=(hN.fr' hv.inX).trans (Fr.of_below (hb2.trans (hb3.mono hb2.size)))
      have g2:Fr X w w7:=(((g1.alloc _).drew).grown hg7 (fun k hk=>.inr (hR3.fl.2 k hk)))
      rw [←hW8]
      exact g2.setCell (p:=⟨rb,3,none⟩) (.inr hv.inX) _
     rw [hW8] at hR7 ⊢
     have HS8:=Lib.hid hs8
     clear hW8 hs8
     obtain ⟨m2,m3,m4,m5⟩:=blk_cells hR7.blk
     have b8:=hR7.blk
     have hR9:=hR7.below ((Below.refl _ W8).alloc (Nat.le_refl _) (.cells #[.int .i64 0,.string nm,.string ⟨#[]⟩,.int .i64 q.files.length] 162)).drew
     go_wp2_with fail
     refine regionE 13 (fun W=>W.cell? ⟨rb,2,none⟩=some (.slice A6 q.chs.length c6)∧W.cell? ⟨rb,5,none⟩=some (.int .i64 q.files.length)) (by kernel_rfl) (by kernel_rfl) (by kernel_rfl) (by kernel_rfl) (by kernel_rfl) (⟨m2,m5⟩) (fun hHeld hTl=>?_)
     refine tkT 0 (v:=?_) hTl hHeld rfl ?_ (fun hTl=>?_);rotate_left
     ·intro w hSw;(try dsimp only at hSw);go_simp;all_goals with_reducible rfl
     try simp only [pT]
     refine tkT 1 (v:=?_) hTl hHeld rfl ?_ (fun hTl=>?_);rotate_left
     ·intro w hSw;(try dsimp only at hSw);go_simp;all_goals with_reducible rfl
     try simp only [pT]
     refine tkT 2 (v:=?_) hTl hHeld rfl ?_ (fun hTl=>?_);rotate_left
     ·intro w hSw;(try dsimp only at hSw);go_simp;all_goals with_reducible rfl
     try simp only [pT]
     refine tkT 3 (v:=?_) hTl hHeld rfl ?_ (fun hTl=>?_);rotate_left
     ·intro w hSw;(try dsimp only at hSw);go_simp;all_goals with_reducible rfl
     try simp only [pT]
     refine tkT 4 (v:=?_) hTl hHeld rfl ?_ (fun hTl=>?_);rotate_left
     ·intro w hSw;(try dsimp only at hSw);go_simp;all_goals with_reducible rfl
     try simp only [pT]
     refine tkT 5 (v:=?_) hTl hHeld rfl ?_ (fun hTl=>?_);rotate_left
     ·intro w hSw;(try dsimp only at hSw);go_simp;all_goals with_reducible rfl
     try simp only [pT]
     refine tkT 6 (v:=?_) hTl hHeld rfl ?_ (fun hTl=>?_);rotate_left
     ·intro w hSw;(try dsimp only at hSw);go_simp;all_goals with_reducible rfl
     try simp only [pT]
     refine tkT 7 (v:=?_) hTl hHeld rfl ?_ (fun hTl=>?_);rotate_left
     ·intro w hSw;(try dsimp only at hSw);go_simp;all_goals with_reducible rfl
     try simp only [pT]
     refine tkT 8 (v:=?_) hTl hHeld rfl ?_ (fun hTl=>?_);rotate_left
     ·intro w hSw;(try dsimp only at hSw);go_simp;all_goals with_reducible rfl
     try simp only [pT]
     refine tkT 9 (v:=?_) hTl hHeld rfl ?_ (fun hTl=>?_);rotate_left
     ·intro w hSw;(try dsimp only at hSw);go_simp;all_goals with_reducible rfl
     try simp only [pT]
     refine tkT 10 (v:=?_) hTl hHeld rfl ?_ (fun hTl=>?_);rotate_left
     ·intro w hSw;(try dsimp only at hSw);go_simp;all_goals with_reducible rfl
     try simp only [pT]
     clear hTl
     refine oneE 11 rfl (by kernel_rfl) (fun K hK=>?_)
     go_simp
     refine hK.out _ _ (fun _=>⟨(b8.alloc _).cell 2,(b8.alloc _).cell 5⟩) ?_
     clear hK K
     try simp only [pT]
     refine oneE 12 rfl (by kernel_rfl) (fun K hK=>?_)
     refine step_push TCh (by rfl) (by rfl) 0 (by rfl) hR9.chs.1 (by rfl) (reads_blk (cs:=#[.int .i64 0,.string nm,.string ⟨#[]⟩,.int .i64 q.files.length]) (blk_drew (Blk.new W8 _ _)) rfl) (ch_one (.new nm q.files.length)) (by show q.chs.length+1≤1000000;omega) (Nat.zero_le _) rfl (ys:=chcells (q.chs++[.new nm q.files.length])) (by rw [ch_append];rfl) ?_
     intro A9 c9 w9 ho9 hg9 hl9;have b9:=blk_grown hR9.blk hg9 (blk_apart hR9.blk hR9.chs (by decide)).symm;have z9:=b9.cell 2;have y9:=b9.frozen 2
     refine hK.out _ _ (fun _=>⟨b9.cell 2,b9.cell 5⟩) ?_
     clear hK K
     try simp only [pT]
     refine oneE 13 rfl (by kernel_rfl) (fun K hK=>?_)
     go_simp
     refine hK.out _ _ (fun h=>absurd h (by decide)) ?_
     clear hK K
     try simp only [pT]
     refine oneE 14 rfl (by kernel_rfl) (fun K hK=>?_)
     go_simp
     refine hK.out _ _ (fun h=>absurd h (by decide)) ?_
     clear hK K
     try simp only [pT]
     refine oneE 15 rfl (by kernel_rfl) (fun K hK=>?_)
     go_simp
     refine hK.out _ _ (fun h=>absurd h (by decide)) ?_
     clear hK K
     try simp only [pT]
     refine doneE (by kernel_rfl) ?_ _
     have hr9:=push_own hR9.chs (Nat.le_refl _) ho9 hl9
     have hR10:=hR9.pushCh (l':=q.chs++[.new nm q.files.length]) (fun _ h=>more_left h) hg9 (by rw [List.length_append];exact hr9)
     have fr10:=(((fr8.alloc (.cells #[.int .i64 0,.string nm,.string ⟨#[]⟩,.int .i64 q.files.length] 162)).drew).grown hg9 (fun k hk=>(hR7.chs.2 k hk).elim .inr (fun h=>.inl (by simp at h;have:=hN.size;have:=hb2.size;have:=hb3.size;omega)))).setCell (p:=⟨rb,2,none⟩) (.inr hv.inX) (.slice A9 (q.chs.length+1) c9)
     have z10:=hR10.blk.cell 5
     have y10:=hR10.blk.frozen 5
     have hq5:(q.files.length:Int)≤1000000:=by omega
     go_wp2
     go_ret
     have hR11:=hR10.setNx (q.files.length+1)
     refine ⟨rfl,⟨_,_,_,_,_,_,_,((hR11.v (by simp)).keep (fun k hk=>?_) Same.refl (KB.refl _))⟩,fr10.setCell (p:=⟨rb,5,none⟩) (.inr hv.inX) _⟩
     have n1:=hN.size
     have n2:=hb2.size
     have n3:=hb3.size
     have n7:=HS8.out
     rcases hk with (hk | hk) | hk
     ·exact .inl hk
     ·right;simp at hk;omega
     ·right;simp at hk hs7;omega
end
end
section
open Go.RowKit
section
variable {X X':Nat→Prop} {w w' w1 w2 w3:World} {rb:Nat} {vd vc vf vw:Value} {V:Nat→Value} {L:Nat→List (ByteArray × Value)} {W:List (PW × Value)} {nx:Int} {p:DP}
set_option maxHeartbeats 4000000 in
set_option maxRecDepth 100000 in
theorem RRemove_any (h:RA X w rb p) (nm:ByteArray) :
 Calls Tryz.prog 36 #[.pointer (some ⟨rb,0,none⟩),.string nm] w fun e w'=>e=.returned (.int .i64 (removeP p nm).1)∧RL X w rb (removeP p nm).2 w':=by
 obtain ⟨⟨vd,vc,vf,vw,V,L,W,hv⟩,hw,hlt,hnb,ha,hc,hww,hfl⟩:=h
 obtain ⟨w1,hF,hR,hN⟩:=RFails_any hv ha
 have hw1:=hw.fail
 obtain ⟨f1,f2,f3,f4,f5⟩:=failP_files p
 simp only [removeP]
 by_cases e1:(failP p).1≠0
 ·rw [if_pos e1]
  have d1:((failP p).1 != 0)=true:=by simpa using e1
  go_enter Tryz.func36,Tryz.ntmps36
  go_wp2_with (go_at_call 85;refine hF.mono ?_;rintro e w9 ⟨rfl,h9⟩;obtain rfl:w1=w9:=h9.symm)
  go_ret
  exact ⟨rfl,hv.step hN (Below.refl _ _) hR⟩
 ·rw [if_neg e1]
  have e0:(failP p).1=0:=by simpa using e1
  rw [e0] at hF
  have hI:=RId_any hR hw1 (by rw [f2];exact hc) nm
  obtain ⟨q,hq⟩:∃ q,(failP p).2=q:=⟨_,rfl⟩
  rw [hq] at hR hw1 hI f1 f2 f4 ⊢
  have hqc:q.chs.length≤1000:=by rw [f2];exact hc
  have hqf:q.files.length≤1000:=by rw [f1];exact hfl
  clear f1 f2 f3 f4 f5 hq
  cases hfd:findP nm q.now with
  | none =>
   rw [hfd] at hI
   rw [if_pos rfl]
   go_enter Tryz.func36,Tryz.ntmps36
   go_wp2_with (first
    | (go_at_call 85;refine hF.mono ?_;rintro e w9 ⟨rfl,h9⟩;obtain rfl:w1=w9:=h9.symm)
    | (go_at_call 63;refine hI.mono ?_;rintro e w2 ⟨rfl,hb2⟩))
   go_ret
   exact ⟨rfl,hv.step hN hb2 hR⟩
  | some i =>
   rw [hfd] at hI
   rw [if_neg (by simp)]
   obtain ⟨A6,c6,rfl⟩:=hR.chs.form
   go_enter Tryz.func36,Tryz.ntmps36
   go_wp2_with (first
    | (go_at_call 85;refine hF.mono ?_;rintro e w9 ⟨rfl,h9⟩;obtain rfl:w1=w9:=h9.symm)
    | (go_at_call 63;refine hI.mono ?_;rintro e w2 ⟨rfl,hb2⟩;have hR3:=(hR.below hb2).n;obtain ⟨k2,k3,k4,k5⟩:=blk_cells hR3.blk;have hR9:=hR3.below ((Below.refl _ w2).alloc (Nat.le_refl _) (.cells #[.int .i64 1,.string nm,.string ⟨#[]⟩,.int .i64 0] 162)))
    | (at_builtin;refine list_push TCh rfl rfl 0 rfl hR9.chs.1 rfl (reads_blk (cs:=#[.int .i64 1,.string nm,.string ⟨#[]⟩,.int .i64 0]) (Blk.new w2 _ _) rfl) (ch_one (.gone nm)) (by show q.chs.length+1≤1000000;omega) (Nat.zero_le _) rfl (ys:=chcells (q.chs++[.gone nm])) (by rw [ch_append];rfl) ?_;intro A9 c9 w9 ho9 hg9 hl9;have b9:=blk_grown hR9.blk hg9 (blk_apart hR9.blk hR9.chs (by decide)).symm;have z9:=b9.cell 2;have y9:=b9.frozen 2))
   go_ret
   have hr9:=push_own hR9.chs (Nat.le_refl _) ho9 hl9
   have hR10:=hR9.pushCh (l':=q.chs++[.gone nm]) (fun _ h=>more_left h) hg9 (by rw [List.length_append];exact hr9)
   have fr10:=(((((hN.fr' hv.inX).trans (Fr.of_below hb2)).alloc (.cells #[.int .i64 1,.string nm,.string ⟨#[]⟩,.int .i64 0] 162)).grown hg9 (fun k hk=>.inr (hR.chs.2 k hk)))).setCell (p:=⟨rb,2,none⟩) (.inr hv.inX) (.slice A9 (q.chs.length+1) c9)
   refine ⟨rfl,⟨_,_,_,_,_,_,_,((hR10.v rfl).keep (fun k hk=>?_) Same.refl (KB.refl _))⟩,fr10⟩
   have n1:=hN.size
   have n2:=hb2.size
   rcases hk with hk | hk
   ·exact .inl hk
   ·right;simp at hk;omega
set_option maxHeartbeats 4000000 in
set_option maxRecDepth 100000 in
theorem RRename_any (h:RA X w rb p) (nm to:ByteArray) (hs:to.size≤1000000) :
 Calls Tryz.prog 37 #[.pointer (some ⟨rb,0,none⟩),.string nm,.string to] w fun e w'=>e=.returned (.int .i64 (renameP p nm to).1)∧RL X w rb (renameP p nm to).2 w':=by
 obtain ⟨⟨vd,vc,vf,vw,V,L,W,hv⟩,hw,hlt,hnb,ha,hc,hww,hfl⟩:=h
 obtain ⟨w1,hF,hR,hN⟩:=RFails_any hv ha
 have hw1:=hw.fail
 obtain ⟨f1,f2,f3,f4,f5⟩:=failP_files p
 simp only [renameP]
 by_cases e1:(failP p).1≠0
 ·rw [if_pos e1]
  have d1:((failP p).1 != 0)=true:=by simpa using e1
  go_enter Tryz.func37,Tryz.ntmps37
  go_wp2_with (go_at_call 85;refine hF.mono ?_;rintro e w9 ⟨rfl,h9⟩;obtain rfl:w1=w9:=h9.symm)
  go_ret
  exact ⟨rfl,hv.step hN (Below.refl _ _) hR⟩
 ·rw [if_neg e1]
  have e0:(failP p).1=0:=by simpa using e1
  rw [e0] at hF
  have hI:=RId_any hR hw1 (by rw [f2];exact hc) nm
  obtain ⟨q,hq⟩:∃ q,(failP p).2=q:=⟨_,rfl⟩
  rw [hq] at hR hw1 hI f1 f2 f4 ⊢
  have hqc:q.chs.length≤1000:=by rw [f2];exact hc
  have hqf:q.files.length≤1000:=by rw [f1];exact hfl
  clear f1 f2 f3 f4 f5 hq
  have hM:=RName_any to hs
  cases hfd:findP nm q.now with
  | none =>
   rw [hfd] at hI
   rw [if_pos rfl]
   go_enter Tryz.func37,Tryz.ntmps37
   go_wp2_with (first
    | (go_at_call 85;refine hF.mono ?_;rintro e w9 ⟨rfl,h9⟩;obtain rfl:w1=w9:=h9.symm)
    | (go_at_call 63;refine hI.mono ?_;rintro e w2 ⟨rfl,hb2⟩))
   go_ret
   exact ⟨rfl,hv.step hN hb2 hR⟩
  | some i =>
   rw [hfd] at hI
   rw [if_neg (by simp)]
   cases hn:nameOK to with
   | false =>
    rw [hn] at hM
    rw [if_pos rfl]
    go_enter Tryz.func37,Tryz.ntmps37
    go_wp2_with (first
     | (go_at_call 85;refine hF.mono ?_;rintro e w9 ⟨rfl,h9⟩;obtain rfl:w1=w9:=h9.symm)
     | (go_at_call 63;refine hI.mono ?_;rintro e w2 ⟨rfl,hb2⟩)
     | (go_at_call 68;refine (hM _).mono ?_;rintro e w8 ⟨rfl,rfl⟩))
    go_ret
    exact ⟨rfl,hv.step hN hb2 hR⟩
   | true =>
    rw [hn] at hM
    rw [if_neg (by simp)]
    obtain ⟨A6,c6,rfl⟩:=hR.chs.form
    go_enter Tryz.func37,Tryz.ntmps37
    go_wp2_with (first
     | (go_at_call 85;refine hF.mono ?_;rintro e w9 ⟨rfl,h9⟩;obtain rfl:w1=w9:=h9.symm)
     | (go_at_call 63;refine hI.mono ?_;rintro e w2 ⟨rfl,hb2⟩;have hR3:=(hR.below hb2).n;obtain ⟨k2,k3,k4,k5⟩:=blk_cells hR3.blk;have hR9:=hR3.below ((Below.refl _ w2).alloc (Nat.le_refl _) (.cells #[.int .i64 2,.string nm,.string to,.int .i64 0] 162)))
     | (go_at_call 68;refine (hM _).mono ?_;rintro e w8 ⟨rfl,rfl⟩)
     | (at_builtin;refine list_push TCh rfl rfl 0 rfl hR9.chs.1 rfl (reads_blk (cs:=#[.int .i64 2,.string nm,.string to,.int .i64 0]) (Blk.new w2 _ _) rfl) (ch_one (.moved nm to)) (by show q.chs.length+1≤1000000;omega) (Nat.zero_le _) rfl (ys:=chcells (q.chs++[.moved nm to])) (by rw [ch_append];rfl) ?_;intro A9 c9 w9 ho9 hg9 hl9;have b9:=blk_grown hR9.blk hg9 (blk_apart hR9.blk hR9.chs (by decide)).symm;have z9:=b9.cell 2;have y9:=b9.frozen 2))
    go_ret
    have hr9:=push_own hR9.chs (Nat.le_refl _) ho9 hl9
    have hR10:=hR9.pushCh (l':=q.chs++[.moved nm to]) (fun _ h=>more_left h) hg9 (by rw [List.length_append];exact hr9)
    have fr10:=(((((hN.fr' hv.inX).trans (Fr.of_below hb2)).alloc (.cells #[.int .i64 2,.string nm,.string to,.int .i64 0] 162)).grown hg9 (fun k hk=>.inr (hR.chs.2 k hk)))).setCell (p:=⟨rb,2,none⟩) (.inr hv.inX) (.slice A9 (q.chs.length+1) c9)
    refine ⟨rfl,⟨_,_,_,_,_,_,_,((hR10.v rfl).keep (fun k hk=>?_) Same.refl (KB.refl _))⟩,fr10⟩
    have n1:=hN.size
    have n2:=hb2.size
    rcases hk with hk | hk
    ·exact .inl hk
    ·right;simp at hk;omega
set_option maxHeartbeats 4000000 in
set_option maxRecDepth 100000 in
theorem RSyncDir_any (h:RA X w rb p) :
 Calls Tryz.prog 42 #[.pointer (some ⟨rb,0,none⟩)] w fun e w'=>e=.returned (.int .i64 (syncdirP p).1)∧RL X w rb (syncdirP p).2 w':=by
 obtain ⟨⟨vd,vc,vf,vw,V,L,W,hv⟩,hw,hlt,hnb,ha,hc,hww,hfl⟩:=h
 obtain ⟨w1,hF,hR,hN⟩:=RFails_any hv ha
 have hw1:=hw.fail
 obtain ⟨f1,f2,f3,f4,f5⟩:=failP_files p
 simp only [syncdirP]
 by_cases e1:(failP p).1≠0
 ·rw [if_pos e1]
  have d1:((failP p).1 != 0)=true:=by simpa using e1
  go_enter Tryz.func42,Tryz.ntmps42
  go_wp2_with (go_at_call 85;refine hF.mono ?_;rintro e w9 ⟨rfl,h9⟩;obtain rfl:w1=w9:=h9.symm)
  go_ret
  exact ⟨rfl,hv.step hN (Below.refl _ _) hR⟩
 ·rw [if_neg e1]
  have e0:(failP p).1=0:=by simpa using e1
  rw [e0] at hF
  have hNw:=RNow_any hR hw1 (by rw [f2];exact hc)
  obtain ⟨q,hq⟩:∃ q,(failP p).2=q:=⟨_,rfl⟩
  rw [hq] at hR hw1 hNw ⊢
  clear f1 f2 f3 f4 f5 hq
  obtain ⟨Ad,cd,rfl⟩:=hR.dir.form
  obtain ⟨Ac,cc,rfl⟩:=hR.chs.form
  go_enter Tryz.func42,Tryz.ntmps42
  go_wp2_with (first
   | (go_at_call 85;refine hF.mono ?_;rintro e w9 ⟨rfl,h9⟩;obtain rfl:w1=w9:=h9.symm)
   | (go_at_call 86;refine hNw.mono ?_;rintro e w2 ⟨v,rfl,hr2,hb2⟩;obtain ⟨Av,cv,rfl⟩:=hr2.form;have b2:=(hR.below hb2).blk;have z1:=b2.cell 1;have y1:=b2.frozen 1;have b3:=b2.set_ 1 (.slice Av q.now.length cv);have z2:=b3.cell 2;have y2:=b3.frozen 2))
  go_ret
  have hR2:=(hR.below hb2).keep (X':=More X w) (fun _ h=>.inl h) Same.refl (KB.refl _)
  have hmm:∀ k,More X w1 k→More X w k:=fun k hk=>hk.imp id (fun h=>by have:=hN.size;omega)
  have hR3:=hR2.cell (fun _ h=>h) (o:=1) (u:=.slice Av q.now.length cv) (p':={q with dir:=q.now}) (by simp) rfl (hr2.keep (fun _ _ _ _ h=>h) hmm) hR2.chs hR2.fl hR2.wrs hR2.wp hR2.ws
  have hR4:=hR3.cell (fun _ h=>h) (o:=2) (u:=.slice none 0 0) (p':={q with dir:=q.now,chs:=[]}) (by simp) rfl hR3.dir RowX.nil hR3.fl hR3.wrs hR3.wp hR3.ws
  exact ⟨rfl,⟨_,_,_,_,_,_,_,hR4⟩,((((hN.fr' hv.inX).trans (Fr.of_below hb2)).setCell (p:=⟨rb,1,none⟩) (.inr hv.inX) _).setCell (p:=⟨rb,2,none⟩) (.inr hv.inX) _)⟩
end
end
section
open Go.RowKit
section
variable {X X':Nat→Prop} {w w' w1 w2 w3:World} {rb:Nat} {vd vc vf vw:Value} {V:Nat→Value} {L:Nat→List (ByteArray × Value)} {W:List (PW × Value)} {nx:Int} {p:DP}
theorem RefV.file (h:RefV X w rb vd vc vf vw V L W p) {i:Nat} (hi:i<p.files.length):∃ g c A' c',vf=.slice (some ⟨g,0,none⟩) p.files.length c∧V i=.slice A' (p.file i).length c'∧g<w.heap.size∧X g ∧
 (∀ W',Below w.heap.size w W'→W'.cell? ⟨g,i*2,none⟩=some (.int .i64 i)∧W'.cell? ⟨g,i*2+1,none⟩=some (.slice A' (p.file i).length c')):=by
 obtain ⟨g,c,cur,hv,hXg,hg,hsz,hcur⟩:=h.fl.row (by omega)
 obtain ⟨A',c',hV⟩:=(h.row i hi).form
 have hl:(L i).length=(p.file i).length:=by rw [h.lp i hi];simp
 rw [hl] at hV
 refine ⟨g,c,A',c',hv,hV,hg.lt,hXg,fun W' hb=>⟨?_,?_⟩⟩
 ·exact (hb.cell (p:=⟨g,i*2,none⟩) hg.lt).trans ((hg.cell _).trans (hcur _ _ ((fl_at hi 0 (by omega)).trans rfl)))
 ·exact (hb.cell (p:=⟨g,i*2+1,none⟩) hg.lt).trans ((hg.cell _).trans (hcur _ _ ((fl_at hi 1 (by omega)).trans (by rw [←hV];rfl))))
theorem RefV.sector (h:RefV X w rb vd vc vf vw V L W p) {i m:Nat} (hi:i<p.files.length) (hm:m<(p.file i).length) {A':Option Addr} {c':Nat} (hV:V i=.slice A' (p.file i).length c') :
 ∃ g v,A'=some ⟨g,0,none⟩∧g<w.heap.size∧X g∧SecW w v ((p.file i).getD m ByteArray.empty)∧∀ W',Below w.heap.size w W'→W'.cell? ⟨g,m,none⟩=some v:=by
 have hl:(L i).length=(p.file i).length:=by rw [h.lp i hi];simp
 obtain ⟨g,c,cur,hv,hXg,hg,hsz,hcur⟩:=(h.row i hi).row (by omega)
 rw [hV] at hv
 simp only [Value.slice.injEq] at hv
 have hy:(L i)[m]?=some ((L i)[m]'(by omega)):=List.getElem?_eq_getElem _
 have hs:=h.ls i hi _ (List.getElem_mem (by omega:m<(L i).length))
 have hc:(p.file i).getD m ByteArray.empty=((L i)[m]'(by omega)).1:=by
  rw [h.lp i hi,List.getD_eq_getElem?_getD,List.getElem?_map,hy];rfl
 refine ⟨g,((L i)[m]'(by omega)).2,hv.1,hg.lt,hXg,by rw [hc];exact hs,fun W' hb=>?_⟩
 exact (hb.cell (p:=⟨g,m,none⟩) hg.lt).trans ((hg.cell _).trans (hcur _ _ (by rw [List.getElem?_map,hy];rfl)))
theorem RefV.wr (h:RefV X w rb vd vc vf vw V L W p) {j:Nat} (hj:j<p.wrs.length):∃ g c y,vw=.slice (some ⟨g,0,none⟩) p.wrs.length c∧W[j]?=some y∧p.wrs[j]?=some y.1∧SecW w y.2 y.1.s∧g<w.heap.size∧X g ∧
 ∀ W',Below w.heap.size w W'→W'.cell? ⟨g,j*3,none⟩=some (.int .i64 y.1.id)∧W'.cell? ⟨g,j*3+1,none⟩=some (.int .i64 y.1.n)∧W'.cell? ⟨g,j*3+2,none⟩=some y.2:=by
 obtain ⟨g,c,cur,hv,hXg,hg,hsz,hcur⟩:=h.wrs.row (by omega)
 have hlW:W.length=p.wrs.length:=by rw [h.wp];simp
 have hy:W[j]?=some (W[j]'(by omega)):=List.getElem?_eq_getElem _
 refine ⟨g,c,W[j]'(by omega),hv,hy,by rw [h.wp,List.getElem?_map,hy];rfl,h.ws _ (List.getElem_mem _),hg.lt,hXg,fun W' hb=>⟨?_,?_,?_⟩⟩
 ·exact (hb.cell (p:=⟨g,j*3,none⟩) hg.lt).trans ((hg.cell _).trans (hcur _ _ ((pw_at hy 0 (by omega)).trans rfl)))
 ·exact (hb.cell (p:=⟨g,j*3+1,none⟩) hg.lt).trans ((hg.cell _).trans (hcur _ _ ((pw_at hy 1 (by omega)).trans rfl)))
 ·exact (hb.cell (p:=⟨g,j*3+2,none⟩) hg.lt).trans ((hg.cell _).trans (hcur _ _ ((pw_at hy 2 (by omega)).trans rfl)))
theorem below_drewN {B:Nat} {w w':World} (h:Below B w w') (n:Nat):Below B w (w'.drewN n):=⟨h.os,h.tape,h.output,h.size,h.block⟩
def bytesOf (s:ByteArray):List Value:=s.data.toList.map fun b=>.int .u8 b.toNat
theorem bytesOf_one (s:ByteArray):∀ u∈bytesOf s,u.oneCell'=true:=by
 intro u hu
 obtain ⟨b,_,rfl⟩:=List.mem_map.1 hu
 rfl
theorem bytesOf_len (s:ByteArray):(bytesOf s).length=s.size:=by simp [bytesOf]
theorem SecW.reads {v:Value} {s:ByteArray} (h:SecW w v s):∃ g c,v=.slice (some ⟨g,0,none⟩) 64 c∧Reads w w.heap.size 1 (some ⟨g,0,none⟩) 64 (bytesOf s):=by
 obtain ⟨h1,g,c,cur,h2,h3,h4⟩:=h
 have hb:Blk w g 5 cur:=h3
 refine ⟨g,c,h2,by rw [bytesOf_len,h1],fun _=>⟨_,rfl,hb.lt,fun j x hx=>?_⟩⟩
 have e:(⟨g,0,none⟩:Addr).add j=⟨g,j,none⟩:=by unfold Addr.add;split <;> simp_all
 have hj:j<64:=by have:=(List.getElem?_eq_some_iff.1 hx).1;rw [bytesOf_len,h1] at this;exact this
 rw [e,hb.cell,h4 j hj,←hx]
 unfold bytesOf
 rw [List.getElem?_map,List.getD_eq_getElem?_getD,List.getElem?_eq_getElem (by simpa [h1] using hj)]
 rfl
theorem sec_own {B:Nat} {A:Option Addr} {c:Nat} {s:ByteArray} (hs:s.size=64) (h:w.ownsRow B 5 1 (.slice A 64 c) 64 (bytesOf s)):SecW w (.slice A 64 c) s:=by
 rcases h.2 with ⟨h1,h2⟩ | ⟨g,cap,cur,h1,_,h2,h3,_,h5,h6⟩
 ·simp at h1
 ·refine ⟨hs,g,c,cur,?_,h2,fun j hj=>?_⟩
  ·simp only [Value.slice.injEq] at h1
   rw [h1.1]
  ·have:(bytesOf s)[j]?=cur[j]?:=by rw [←h6,List.getElem?_take,if_pos (by omega)];simp
   rw [←this]
   unfold bytesOf
   rw [List.getElem?_map,List.getD_eq_getElem?_getD,List.getElem?_eq_getElem (by simpa [hs] using hj)]
   rfl
theorem cont_take_succ {i:Nat} {l:List ByteArray} {j:Nat} {y:PW} (hy:p.wrs[j]?=some y):(p.wrs.take (j+1)).foldl (putW i) l=putW i ((p.wrs.take j).foldl (putW i) l) y:=by
 rw [List.take_add_one,hy,List.foldl_append];rfl
def LookRel (w2:World) (p:DP) (i m:Nat) (out k:Value) (wr:World):Prop :=
 ∃ j,j≤p.wrs.length∧k=.int .i64 j∧SecW wr out (((p.wrs.take j).foldl (putW i) (p.file i)).getD m ByteArray.empty)∧Below w2.heap.size w2 wr
set_option maxHeartbeats 4000000 in
set_option maxRecDepth 100000 in
theorem RLook_any (h:RefV X w rb vd vc vf vw V L W p) (hw:WF p) (hc:p.chs.length≤1000) (hwr:p.wrs.length≤1000) (hf:p.files.length≤1000) (nm:ByteArray) (n:Int) :
 Calls Tryz.prog 51 #[.pointer (some ⟨rb,0,none⟩),.string nm,.int .i64 n] w fun e w'=>(∃ v,e=.returned (.tuple #[v,.int .i64 (lookP p nm n).1])∧StrOr w' v (lookP p nm n).2)∧Below w.heap.size w w':=by
 have hI:=RId_any h hw hc nm
 unfold lookP
 cases hfd:findP nm p.now with
 | none =>
  rw [hfd] at hI
  go_enter Tryz.func51,Tryz.ntmps51
  go_wp2_with (go_at_call 63;refine hI.mono ?_;rintro e w2 ⟨rfl,hb2⟩)
  go_ret2
  exact ⟨⟨_,rfl,.inr ⟨rfl,rfl⟩⟩,hb2⟩
 | some i =>
  rw [hfd] at hI
  have hi:=(hw.find hfd).2
  obtain ⟨g,c,A',c',rfl,hV,hgl,hXg,hcell⟩:=h.file hi
  have hlen:=hw.file_len i
  obtain ⟨Aw,cw,rfl⟩:=h.wrs.form
  have hA:∀ W0,Below w.heap.size w W0→Calls Tryz.prog 64 #[.pointer (some ⟨rb,0,none⟩),.int .i64 i] W0 fun e w'=>e=.returned (.int .i64 i)∧W0=w':=fun W0 hb=>RAt_go (h.below hb) hi (by omega)
  have b3:∀ W0,Below w.heap.size w W0→W0.cell? ⟨rb,3,none⟩=some (.slice (some ⟨g,0,none⟩) p.files.length c):=fun W0 hb=>(h.below hb).blk.cell 3
  have i0:(0:Int)≤(i:Int):=by omega
  have i1:(i:Int)<(p.files.length:Int):=by omega
  simp only
  by_cases h2:n<0∨((p.file i).length:Int)≤n
  ·rw [if_pos h2]
   go_enter Tryz.func51,Tryz.ntmps51
   go_wp2_with (first
    | (go_at_call 63;refine hI.mono ?_;rintro e w2 ⟨rfl,hb2⟩;have k3:=b3 w2 hb2;obtain ⟨q0,q1⟩:=hcell w2 hb2)
    | (go_at_call 64;refine (hA _ hb2).mono ?_;rintro e w8 ⟨rfl,rfl⟩))
   go_region_held3 (fun W0=>W0.cell? ⟨rb,3,none⟩=some (.slice (some ⟨g,0,none⟩) p.files.length c)∧W0.cell? ⟨g,i*2+1,none⟩=some (.slice A' (p.file i).length c'))
    (exact ⟨k3,q1⟩)
    ((go_at_call 64;refine (hA _ hb2.drew).mono ?_;rintro e w8 ⟨rfl,rfl⟩))
   go_wp2
   all_goals
    go_ret2
    exact ⟨⟨_,rfl,.inr ⟨rfl,rfl⟩⟩,hb2.drew⟩
  ·rw [if_neg h2]
   obtain ⟨m,rfl⟩:∃ m:Nat,n=m:=⟨n.toNat,by omega⟩
   have hm:m<(p.file i).length:=by omega
   obtain ⟨gs,vs,rfl,hgsl,hXgs,hsec,hcs⟩:=h.sector hi hm hV
   have j0:(0:Int)≤(m:Int):=by omega
   have j1:(m:Int)<((p.file i).length:Int):=by omega
   have d1:decide (((p.file i).length:Int)≤(m:Int))=false:=by simp;omega
   have d2:decide ((m:Int)<0)=false:=by simp
   rw [Int.toNat_natCast]
   obtain ⟨gv,cv,hvs,_⟩:=hsec.reads
   subst hvs
   obtain ⟨R,hR⟩:∃ R,(p.cont i).getD m ByteArray.empty=R:=⟨_,rfl⟩
   rw [hR]
   have HR:=Lib.hid hR
   clear hR
   go_enter Tryz.func51,Tryz.ntmps51
   go_wp2_with (first
    | (go_at_call 63;refine hI.mono ?_;rintro e w2 ⟨rfl,hb2⟩;have k3:=b3 w2 hb2;obtain ⟨q0,q1⟩:=hcell w2 hb2;have s0:=hcs w2 hb2)
    | (go_at_call 64;refine (hA _ hb2).mono ?_;rintro e w8 ⟨rfl,rfl⟩))
   go_region_held3 (fun W0=>W0.cell? ⟨rb,3,none⟩=some (.slice (some ⟨g,0,none⟩) p.files.length c)∧W0.cell? ⟨g,i*2+1,none⟩=some (.slice (some ⟨gs,0,none⟩) (p.file i).length c'))
    (exact ⟨k3,q1⟩)
    ((go_at_call 64;refine (hA _ hb2.drew).mono ?_;rintro e w8 ⟨rfl,rfl⟩))
   go_wp2
   go_loopw [11,12] (fun out k wr=>LookRel w p i m out k wr) (fun _ k _=>p.wrs.length-(intOf k).toNat)
   case atStart=>exact ⟨0,Nat.zero_le _,rfl,hsec.keep (KB.of_below hb2.drew),hb2.drew⟩
   case round =>
    obtain ⟨j,hj,rfl,hs,hb⟩:=hrel
    have hbw:Below w.heap.size w wr:=hb
    have k4:wr.cell? ⟨rb,4,none⟩=some (.slice Aw p.wrs.length cw):=(h.below hbw).blk.cell 4
    obtain ⟨go,co,rfl,hro⟩:=hs.reads
    by_cases hlt:j<p.wrs.length
    ·have d3:decide (j<p.wrs.length)=true:=by simpa using hlt
     obtain ⟨g4,c4,y,hv4,hWy,hy,hsy,hg4,hX4,hc4⟩:=h.wr hlt
     obtain ⟨rfl,_,rfl⟩:Aw=some ⟨g4,0,none⟩∧p.wrs.length=p.wrs.length∧cw=c4:=by simpa using hv4
     obtain ⟨y0,y1,y2⟩:=hc4 wr hbw
     obtain ⟨gy,cy,hvy,_⟩:=hsy.reads
     rw [hvy] at y2
     have l0:(0:Int)≤(j:Int):=by omega
     have l1:(j:Int)<(p.wrs.length:Int):=by omega
     have hts:=cont_take_succ (i:=i) (l:=p.file i) hy
     have hfl:((p.wrs.take j).foldl (putW i) (p.file i)).length=(p.file i).length:=foldW_len _ _ _
     have HY:=Lib.hid (And.intro hWy hy)
     have HTS:=Lib.hid hts
     have HFL:=Lib.hid hfl
     have HVY:=Lib.hid hvy
     clear hWy hy hts hfl hvy
     by_cases e1:y.1.id=i
     ·have d4:((y.1.id:Int)==(i:Int))=true:=by rw [e1];simp
      by_cases e2:y.1.n=m
      ·have d5:((y.1.n:Int)==(m:Int))=true:=by rw [e2];simp
       have HE:=Lib.hid (And.intro e1 e2)
       clear e1 e2
       go_wp2
       go_roundw
       case rel =>
        refine ⟨j+1,by omega,by go_num,?_,hb⟩
        rw [HTS.out]
        rw [show ∀ F,putW i F y.1=F.set y.1.n y.1.s from fun F=>if_pos HE.out.1,HE.out.2,List.getD_eq_getElem?_getD,List.getElem?_set_self (by rw [HFL.out];exact hm)]
        first | exact hsy.keep (KB.of_below hbw) | (rw [←HVY.out];exact hsy.keep (KB.of_below hbw))
       case measure=>simp [intOf];omega
      ·have d5:((y.1.n:Int)==(m:Int))=false:=by simp;omega
       have HE:=Lib.hid e2
       clear e2
       go_wp2
       go_roundw
       case rel =>
        refine ⟨j+1,by omega,by go_num,?_,hb⟩
        rw [HTS.out]
        rw [show ∀ F,putW i F y.1=F.set y.1.n y.1.s from fun F=>if_pos e1,List.getD_eq_getElem?_getD,List.getElem?_set_ne HE.out,←List.getD_eq_getElem?_getD]
        exact hs
       case measure=>simp [intOf];omega
     ·have d4:((y.1.id:Int)==(i:Int))=false:=by simp;omega
      have HE:=Lib.hid e1
      clear e1
      go_wp2
      go_roundw
      case rel =>
       refine ⟨j+1,by omega,by go_num,?_,hb⟩
       rw [HTS.out]
       rw [show ∀ F,putW i F y.1=F from fun F=>if_neg HE.out]
       exact hs
      case measure=>simp [intOf];omega
    ·obtain rfl:j=p.wrs.length:=by omega
     have d3:decide (p.wrs.length<p.wrs.length)=false:=by simp
     rw [List.take_length] at hs hro
     obtain rfl:(p.cont i).getD m ByteArray.empty=R:=HR.out
     have hs64:=hs.1
     go_wp2_with (at_builtin;refine list_push TBy rfl rfl w.heap.size rfl (own_emptyH _ _ _ rfl hb.size) rfl (hro.below ((Below.refl _ wr).alloc (Nat.le_refl _) _)) (bytesOf_one _) (by omega) (by have:=hb.size;simp;omega) (Nat.zero_add _) (List.nil_append _) ?_;intro A9 c9 w9 ho9 hg9 hl9)
     all_goals
      go_ret2
      have hB9:Below w.heap.size w w9:=((hb.alloc hb.size _).grown hg9 (by have:=hb.size;simp;omega) (fun k e=>by cases e;exact hb.size))
      exact ⟨⟨_,rfl,.inl (sec_own hs64 (own_le ho9 (Nat.zero_le _))).str⟩,hB9⟩
set_option maxHeartbeats 4000000 in
set_option maxRecDepth 100000 in
theorem RLen_any (h:RefV X w rb vd vc vf vw V L W p) (hw:WF p) (hc:p.chs.length≤1000) (hf:p.files.length≤1000) {nm:ByteArray} {i:Nat} (hfd:findP nm p.now=some i) :
 Calls Tryz.prog 50 #[.pointer (some ⟨rb,0,none⟩),.string nm] w fun e w'=>e=.returned (.tuple #[.int .i64 (p.file i).length,.int .i64 0])∧Below w.heap.size w w':=by
 have hI:=RId_any h hw hc nm
 rw [hfd] at hI
 have hi:=(hw.find hfd).2
 obtain ⟨g,c,A',c',rfl,hV,hgl,hXg,hcell⟩:=h.file hi
 have hA:∀ W0,Below w.heap.size w W0→Calls Tryz.prog 64 #[.pointer (some ⟨rb,0,none⟩),.int .i64 i] W0 fun e w'=>e=.returned (.int .i64 i)∧W0=w':=fun W0 hb=>RAt_go (h.below hb) hi (by omega)
 have b3:∀ W0,Below w.heap.size w W0→W0.cell? ⟨rb,3,none⟩=some (.slice (some ⟨g,0,none⟩) p.files.length c):=fun W0 hb=>(h.below hb).blk.cell 3
 have i0:(0:Int)≤(i:Int):=by omega
 have i1:(i:Int)<(p.files.length:Int):=by omega
 go_enter Tryz.func50,Tryz.ntmps50
 go_wp2_with (first
  | (go_at_call 63;refine hI.mono ?_;rintro e w2 ⟨rfl,hb2⟩;have k3:=b3 w2 hb2;obtain ⟨q0,q1⟩:=hcell w2 hb2)
  | (go_at_call 64;refine (hA _ hb2).mono ?_;rintro e w8 ⟨rfl,rfl⟩))
 go_region_held3 (fun W0=>W0.cell? ⟨rb,3,none⟩=some (.slice (some ⟨g,0,none⟩) p.files.length c)∧W0.cell? ⟨g,i*2+1,none⟩=some (.slice A' (p.file i).length c'))
  (exact ⟨k3,q1⟩)
  ((go_at_call 64;refine (hA _ hb2.drew).mono ?_;rintro e w8 ⟨rfl,rfl⟩))
 go_wp2
 go_ret2
 exact ⟨rfl,hb2.drew⟩
set_option maxHeartbeats 4000000 in
set_option maxRecDepth 100000 in
theorem RRead_any (h:RA X w rb p) (nm:ByteArray) (n:Int) :
 Calls Tryz.prog 40 #[.pointer (some ⟨rb,0,none⟩),.string nm,.int .i64 n] w fun e w'=>(∃ v,e=.returned (.tuple #[v,.int .i64 (readP p nm n).1])∧StrOr w' v (readP p nm n).2.1)∧RL X w rb (readP p nm n).2.2 w':=by
 obtain ⟨⟨vd,vc,vf,vw,V,L,W,hv⟩,hw,hlt,hnb,ha,hc,hww,hfl⟩:=h
 obtain ⟨w1,hF,hR,hN⟩:=RFails_any hv ha
 have hw1:=hw.fail
 obtain ⟨f1,f2,f3,f4,f5⟩:=failP_files p
 simp only [readP]
 by_cases e1:(failP p).1≠0
 ·rw [if_pos e1]
  have d1:((failP p).1 != 0)=true:=by simpa using e1
  go_enter Tryz.func40,Tryz.ntmps40
  go_wp2_with (go_at_call 85;refine hF.mono ?_;rintro e w9 ⟨rfl,h9⟩;obtain rfl:w1=w9:=h9.symm)
  go_ret2
  exact ⟨⟨_,rfl,.inr ⟨rfl,rfl⟩⟩,hv.step hN (Below.refl _ _) hR⟩
 ·rw [if_neg e1]
  have e0:(failP p).1=0:=by simpa using e1
  rw [e0] at hF
  have hL:=RLook_any hR hw1 (by rw [f2];exact hc) (by rw [f4];exact hww) (by rw [f1];exact hfl) nm n
  go_enter Tryz.func40,Tryz.ntmps40
  go_wp2_with (first
   | (go_at_call 85;refine hF.mono ?_;rintro e w9 ⟨rfl,h9⟩;obtain rfl:w1=w9:=h9.symm)
   | (go_at_call 51;refine hL.mono ?_;rintro e w2 ⟨⟨v,rfl,hs2⟩,hb2⟩))
  go_ret2
  exact ⟨⟨v,rfl,hs2⟩,hv.step hN hb2 hR⟩
end
end
section
open Go.RowKit
section
variable {X X':Nat→Prop} {w w' w1 w2 w3:World} {rb:Nat} {vd vc vf vw:Value} {V:Nat→Value} {L:Nat→List (ByteArray × Value)} {W:List (PW × Value)} {nx:Int} {p:DP}
theorem wr_one (y:PW × Value) (hv:y.2.oneCell'=true):∀ u∈wcl y,u.oneCell'=true:=by
 intro u hu
 simp only [wcl,List.mem_cons,List.not_mem_nil,or_false] at hu
 rcases hu with rfl | rfl | rfl
 ·rfl
 ·rfl
 ·exact hv
set_option maxHeartbeats 4000000 in
set_option maxRecDepth 100000 in
theorem RWrite_any (h:RA X w rb p) (nm:ByteArray) (n:Int) {Ap:Option Addr} {cp:Nat} {s:ByteArray} (hp:∀ W0,Fr X w W0→Reads W0 W0.heap.size 1 Ap s.size (bytesOf s)) (hss:s.size≤1000000) :
 Calls Tryz.prog 39 #[.pointer (some ⟨rb,0,none⟩),.string nm,.int .i64 n,.slice Ap s.size cp] w fun e w'=>e=.returned (.int .i64 (writeP p nm n s).1)∧RL X w rb (writeP p nm n s).2 w':=by
 obtain ⟨⟨vd,vc,vf,vw,V,L,W,hv⟩,hw,hlt,hnb,ha,hc,hww,hfl⟩:=h
 obtain ⟨w1,hF,hR,hN⟩:=RFails_any hv ha
 have hw1:=hw.fail
 obtain ⟨f1,f2,f3,f4,f5⟩:=failP_files p
 simp only [writeP]
 by_cases e1:(failP p).1≠0
 ·rw [if_pos e1]
  have d1:((failP p).1 != 0)=true:=by simpa using e1
  go_enter Tryz.func39,Tryz.ntmps39
  go_wp2_with (go_at_call 85;refine hF.mono ?_;rintro e w9 ⟨rfl,h9⟩;obtain rfl:w1=w9:=h9.symm)
  go_ret
  exact ⟨rfl,hv.step hN (Below.refl _ _) hR⟩
 ·rw [if_neg e1]
  have e0:(failP p).1=0:=by simpa using e1
  rw [e0] at hF
  have hI:=RId_any hR hw1 (by rw [f2];exact hc) nm
  obtain ⟨q,hq⟩:∃ q,(failP p).2=q:=⟨_,rfl⟩
  rw [hq] at hR hw1 hI f1 f2 f4 ⊢
  have hqc:q.chs.length≤1000:=by rw [f2];exact hc
  have hqf:q.files.length≤1000:=by rw [f1];exact hfl
  have hqw:q.wrs.length≤1000:=by rw [f4];exact hww
  clear f1 f2 f3 f4 f5 hq
  cases hfd:findP nm q.now with
  | none =>
   rw [hfd] at hI
   go_enter Tryz.func39,Tryz.ntmps39
   go_wp2_with (first
    | (go_at_call 85;refine hF.mono ?_;rintro e w9 ⟨rfl,h9⟩;obtain rfl:w1=w9:=h9.symm)
    | (go_at_call 63;refine hI.mono ?_;rintro e w2 ⟨rfl,hb2⟩))
   go_ret
   exact ⟨rfl,hv.step hN hb2 hR⟩
  | some i =>
   rw [hfd] at hI
   have hi:=(hw1.find hfd).2
   have hlen:=hw1.file_len i
   obtain ⟨g,c,A',c',rfl,hV,hgl,hXg,hcell⟩:=hR.file hi
   have hA:∀ W0,Below w1.heap.size w1 W0→Calls Tryz.prog 64 #[.pointer (some ⟨rb,0,none⟩),.int .i64 i] W0 fun e w'=>e=.returned (.int .i64 i)∧W0=w':=fun W0 hb=>RAt_go (hR.below hb) hi (by omega)
   have b3:∀ W0,Below w1.heap.size w1 W0→W0.cell? ⟨rb,3,none⟩=some (.slice (some ⟨g,0,none⟩) q.files.length c):=fun W0 hb=>(hR.below hb).blk.cell 3
   have i0:(0:Int)≤(i:Int):=by omega
   have i1:(i:Int)<(q.files.length:Int):=by omega
   simp only
   by_cases h2:n<0∨((q.file i).length:Int)≤n
   ·rw [if_pos h2]
    by_cases h3:n<0
    ·have d3:decide (n<0)=true:=by simpa using h3
     go_enter Tryz.func39,Tryz.ntmps39
     go_wp2_with (first
      | (go_at_call 85;refine hF.mono ?_;rintro e w9 ⟨rfl,h9⟩;obtain rfl:w1=w9:=h9.symm)
      | (go_at_call 63;refine hI.mono ?_;rintro e w2 ⟨rfl,hb2⟩;have k3:=b3 w2 hb2;obtain ⟨q0,q1⟩:=hcell w2 hb2))
     go_quiet (exact Calls.quiet_of_same ((hA _ (below_drewN hb2 _)).mono (fun e w' h=>⟨h.1,h.2.symm⟩)))
     go_wp2
     go_ret
     exact ⟨rfl,hv.step hN (below_drewN hb2 _) hR⟩
    ·have d3:decide (n<0)=false:=by simpa using h3
     have d4:decide (((q.file i).length:Int)≤n)=true:=by simp;omega
     go_enter Tryz.func39,Tryz.ntmps39
     go_wp2_with (first
      | (go_at_call 85;refine hF.mono ?_;rintro e w9 ⟨rfl,h9⟩;obtain rfl:w1=w9:=h9.symm)
      | (go_at_call 63;refine hI.mono ?_;rintro e w2 ⟨rfl,hb2⟩;have k3:=b3 w2 hb2;obtain ⟨q0,q1⟩:=hcell w2 hb2))
     go_quiet (exact Calls.quiet_of_same ((hA _ (below_drewN hb2 _)).mono (fun e w' h=>⟨h.1,h.2.symm⟩)))
     go_wp2
     go_ret
     exact ⟨rfl,hv.step hN (below_drewN hb2 _) hR⟩
   ·rw [if_neg h2]
    obtain ⟨m,rfl⟩:∃ m:Nat,n=m:=⟨n.toNat,by omega⟩
    have d3:decide ((m:Int)<0)=false:=by simp
    have d4:decide (((q.file i).length:Int)≤(m:Int))=false:=by simp;omega
    have d4':decide ((q.file i).length≤m)=false:=by simp;omega
    by_cases h3:s.size≠64
    ·rw [if_pos h3]
     have d5:((s.size:Int) != 64)=true:=by simp;omega
     go_enter Tryz.func39,Tryz.ntmps39
     go_wp2_with (first
      | (go_at_call 85;refine hF.mono ?_;rintro e w9 ⟨rfl,h9⟩;obtain rfl:w1=w9:=h9.symm)
      | (go_at_call 63;refine hI.mono ?_;rintro e w2 ⟨rfl,hb2⟩;have k3:=b3 w2 hb2;obtain ⟨q0,q1⟩:=hcell w2 hb2))
     go_quiet (exact Calls.quiet_of_same ((hA _ (below_drewN hb2 _)).mono (fun e w' h=>⟨h.1,h.2.symm⟩)))
     go_wp2
     go_ret
     exact ⟨rfl,hv.step hN (below_drewN hb2 _) hR⟩
    ·rw [if_neg h3]
     have h64:s.size=64:=by omega
     have d5:((s.size:Int) != 64)=false:=by simp;omega
     rw [h64] at hp d5 ⊢
     obtain ⟨Aw,cw,rfl⟩:=hR.wrs.form
     go_enter Tryz.func39,Tryz.ntmps39
     go_wp2_with (first
      | (go_at_call 85;refine hF.mono ?_;rintro e w9 ⟨rfl,h9⟩;obtain rfl:w1=w9:=h9.symm)
      | (go_at_call 63;refine hI.mono ?_;rintro e w2 ⟨rfl,hb2⟩;have k3:=b3 w2 hb2;obtain ⟨q0,q1⟩:=hcell w2 hb2))
     go_quiet (exact Calls.quiet_of_same ((hA _ (below_drewN hb2 _)).mono (fun e w' h=>⟨h.1,h.2.symm⟩)))
     have hb3:=below_drewN hb2 nq
     obtain ⟨w3,hw3⟩:∃ w3,w2.drewN nq=w3:=⟨_,rfl⟩
     rw [hw3] at hb3 ⊢
     clear hw3 k3 q0 q1
     have hR3:=(hR.below hb3).n
     obtain ⟨k2,k3,k4,k5⟩:=blk_cells hR3.blk
     have b3':=hR3.blk
     have g1:Fr X w w3:=(hN.fr' hv.inX).trans (Fr.of_below hb3)
     have hBE:Below w3.heap.size w3 (w3.alloc (.cells #[] 5)).drew:=((Below.refl _ w3).alloc (Nat.le_refl _) _).drew
     have hpE:=hp (w3.alloc (.cells #[] 5)).drew ((g1.alloc _).drew)
     go_wp2
     refine regionE 13 (fun W0=>W0.cell? ⟨rb,4,none⟩=some (.slice Aw q.wrs.length cw)) (by kernel_rfl) (by kernel_rfl) (by kernel_rfl) (by kernel_rfl) (by kernel_rfl) (k4) (fun hHeld hTl=>?_)
     refine tkT 0 (v:=?_) hTl hHeld rfl ?_ (fun hTl=>?_);rotate_left
     ·intro w hSw;(try dsimp only at hSw);go_simp;all_goals with_reducible rfl
     try simp only [pT]
     refine tkT 1 (v:=?_) hTl hHeld rfl ?_ (fun hTl=>?_);rotate_left
     ·intro w hSw;(try dsimp only at hSw);go_simp;all_goals with_reducible rfl
     try simp only [pT]
     refine tkT 2 (v:=?_) hTl hHeld rfl ?_ (fun hTl=>?_);rotate_left
     ·intro w hSw;(try dsimp only at hSw);go_simp;all_goals with_reducible rfl
     try simp only [pT]
     refine tkT 3 (v:=?_) hTl hHeld rfl ?_ (fun hTl=>?_);rotate_left
     ·intro w hSw;(try dsimp only at hSw);go_simp;all_goals with_reducible rfl
     try simp only [pT]
     refine tkT 4 (v:=?_) hTl hHeld rfl ?_ (fun hTl=>?_);rotate_left
     ·intro w hSw;(try dsimp only at hSw);go_simp;all_goals with_reducible rfl
     try simp only [pT]
     refine tkT 5 (v:=?_) hTl hHeld rfl ?_ (fun hTl=>?_);rotate_left
     ·intro w hSw;(try dsimp only at hSw);go_simp;all_goals with_reducible rfl
     try simp only [pT]
     refine tkT 6 (v:=?_) hTl hHeld rfl ?_ (fun hTl=>?_);rotate_left
     ·intro w hSw;(try dsimp only at hSw);go_simp;all_goals with_reducible rfl
     try simp only [pT]
     refine tkT 8 (v:=?_) hTl hHeld rfl ?_ (fun hTl=>?_);rotate_left
     ·intro w hSw;(try dsimp only at hSw);go_simp;all_goals with_reducible rfl
     try simp only [pT]
     clear hTl
     refine oneE 7 rfl (by kernel_rfl) (fun K hK=>?_)
     go_simp
     refine hK.out _ _ (fun _=>(b3'.alloc _).cell 4) ?_
     clear hK K
     try simp only [pT]
     refine oneE 9 rfl (by kernel_rfl) (fun K hK=>?_)
     refine step_push TBy (by rfl) (by rfl) w3.heap.size (by rfl) (own_emptyH w3 5 1 rfl (Nat.le_refl _)) (by rfl) hpE (bytesOf_one s) (by omega) (by simp) (Nat.zero_add _) (List.nil_append _) ?_
     intro A4 c4 w4 ho4 hg4 hl4;have hB4:Below w3.heap.size w3 w4:=hBE.grown hg4 (by simp) (fun k e=>by cases e;exact Nat.le_refl _);have hR4:=hR3.below hB4;have b4:=hR4.blk
     refine hK.out _ _ (fun _=>b4.cell 4) ?_
     clear hK K
     try simp only [pT]
     refine oneE 10 rfl (by kernel_rfl) (fun K hK=>?_)
     go_simp
     refine hK.out _ _ (fun _=>b4.cell 4) ?_
     clear hK K
     try simp only [pT]
     have hR5:=hR4.below ((Below.refl _ w4).alloc (Nat.le_refl _) (.cells #[.int .i64 i,.int .i64 m,.slice A4 64 c4] 165))
     have hlW:W.length=q.wrs.length:=by rw [hR5.wp];simp
     refine oneE 11 rfl (by kernel_rfl) (fun K hK=>?_)
     go_simp
     refine hK.out _ _ (fun _=>(b4.alloc _).cell 4) ?_
     clear hK K
     try simp only [pT]
     refine oneE 12 rfl (by kernel_rfl) (fun K hK=>?_)
     refine step_push TWr (by rfl) (by rfl) 0 (by rfl) hR5.wrs.1 (by rfl) (reads_blk (cs:=#[.int .i64 i,.int .i64 m,.slice A4 64 c4]) (Blk.new w4 _ _) rfl) (wr_one (⟨i,m,s⟩,.slice A4 64 c4) rfl) (by omega) (Nat.zero_le _) rfl (ys:=pwcells (W++[(⟨i,m,s⟩,.slice A4 64 c4)])) (by rw [pw_append];rfl) ?_
     intro A6 c6 w6 ho6 hg6 hl6;have b6:=blk_grown hR5.blk hg6 (blk_apart hR5.blk hR5.wrs (by decide)).symm;have z6:=b6.cell 4;have y6:=b6.frozen 4
     refine hK.out _ _ (fun _=>b6.cell 4) ?_
     clear hK K
     try simp only [pT]
     refine oneE 13 rfl (by kernel_rfl) (fun K hK=>?_)
     go_simp
     refine hK.out _ _ (fun h=>absurd h (by decide)) ?_
     clear hK K
     try simp only [pT]
     refine oneE 14 rfl (by kernel_rfl) (fun K hK=>?_)
     go_simp
     refine hK.out _ _ (fun h=>absurd h (by decide)) ?_
     clear hK K
     try simp only [pT]
     refine oneE 15 rfl (by kernel_rfl) (fun K hK=>?_)
     go_simp
     refine hK.out _ _ (fun h=>absurd h (by decide)) ?_
     clear hK K
     try simp only [pT]
     refine doneE (by kernel_rfl) ?_ _
     go_wp2
     go_ret
     have hsec:=(sec_own h64 (own_le ho4 (Nat.zero_le _))).keep (KB.of_below ((Below.refl _ w4).alloc (Nat.le_refl _) (.cells #[.int .i64 i,.int .i64 m,.slice A4 64 c4] 165)))
     have hr6:=push_own hR5.wrs (Nat.le_refl _) ho6 hl6
     have hR7:=hR5.pushWr (W':=W++[(⟨i,m,s⟩,.slice A4 64 c4)]) (fun _ h=>more_left h) hg6 (by rw [List.length_append,hlW];exact hr6) (fun y hy=>by
      rcases List.mem_append.1 hy with hy | hy
      ·exact hR5.ws y hy
      ·obtain rfl:=List.mem_singleton.1 hy;exact hsec)
     have fr7:=(((g1.trans (Fr.of_below hB4)).alloc (.cells #[.int .i64 i,.int .i64 m,.slice A4 64 c4] 165)).grown hg6 (fun k hk=>.inr (hR.wrs.2 k hk))).setCell (p:=⟨rb,4,none⟩) (.inr hv.inX) (.slice A6 (q.wrs.length+1) c6)
     have hwp:(W++[((⟨i,m,s⟩:PW),Value.slice A4 64 c4)]).map (·.1)=q.wrs++[⟨i,m,s⟩]:=by rw [List.map_append,←hR5.wp];rfl
     rw [hwp] at hR7
     refine ⟨rfl,⟨_,_,_,_,_,_,_,((hR7.v rfl).keep (fun k hk=>?_) Same.refl (KB.refl _))⟩,fr7⟩
     have n1:=hN.size
     have n3:=hb3.size
     have n4:=hB4.size
     rcases hk with hk | hk
     ·exact .inl hk
     ·right;simp at hk;omega
end
end
section
open Go.RowKit
section
variable {X X':Nat→Prop} {w w' w1 w2 w3:World} {rb:Nat} {vd vc vf vw:Value} {V:Nat→Value} {L:Nat→List (ByteArray × Value)} {W:List (PW × Value)} {nx:Int} {p:DP}
theorem RowX.set {e size n g c m:Nat} {xs:List Value} (h:RowX X w e size (.slice (some ⟨g,0,none⟩) n c) n xs) (hm:m<n*size) (u:Value) :
 RowX X (w.setCell ⟨g,m,none⟩ u) e size (.slice (some ⟨g,0,none⟩) n c) n (xs.set m u):=by
 refine ⟨⟨by rw [List.length_set];exact h.1.1,?_⟩,h.2⟩
 rcases h.1.2 with ⟨h1,h2⟩ | ⟨g',cap,cur,h1,h2,h3,h4,h5,h6,h7⟩
 ·cases h1
 ·simp only [Value.slice.injEq,Option.some.injEq,Addr.mk.injEq] at h1
  obtain ⟨⟨rfl,_⟩,_,rfl⟩:=h1
  refine .inr ⟨g,c,cur.setIfInBounds m u,rfl,h2,(show Blk w g e cur from h3).set_ m u,h4,h5,by simpa using h6,?_⟩
  rw [Array.toList_setIfInBounds,List.take_set,h7]
theorem RefV.setS (h:RefV X w rb vd vc vf vw V L W p) {i m:Nat} (hi:i<p.files.length) (hm:m<(p.file i).length) {gs c':Nat} (hV:V i=.slice (some ⟨gs,0,none⟩) (p.file i).length c') {sv:Value} {s:ByteArray} (hs:SecW w sv s) :
 RefV X (w.setCell ⟨gs,m,none⟩ sv) rb vd vc vf vw V (fun j=>if j=i then (L i).set m (s,sv) else L j) W {p with files:=p.files.set i ((p.file i).set m s)}:=by
 have hl:(L i).length=(p.file i).length:=by rw [h.lp i hi];simp
 have hrow:=h.row i hi
 rw [hV,hl] at hrow
 obtain ⟨cur,hblk⟩:=hrow.block (k:=gs) rfl
 have hb:Blk w gs 36 cur:=hblk
 have hoth:∀ k,k≠gs→(w.setCell ⟨gs,m,none⟩ sv).heap[k]?=w.heap[k]?:=fun k hk=>Below.heap_setCell _ _ _ _ hk
 have hk:KB w (w.setCell ⟨gs,m,none⟩ sv):=kb_set hb (by decide)
 have hlen:(p.files.set i ((p.file i).set m s)).length=p.files.length:=by simp
 have hfile:∀ j,({p with files:=p.files.set i ((p.file i).set m s)}:DP).file j=if j=i then (p.file i).set m s else p.file j:=fun j=>file_set p i _ j hi
 refine ⟨?_,h.inX,h.dir.farset hb (by decide),h.chs.farset hb (by decide),?_,h.wrs.farset hb (by decide),h.wp,fun y hy=>(h.ws y hy).keep hk,fun j hj=>?_,fun j hj y hy=>?_,fun j hj=>?_,fun j l k hj hl'=>?_⟩
 ·have hne:rb≠gs:=fun e=>by subst e;have:=h.blk;unfold Blk at this hb;rw [this] at hb;cases hb
  show Blk _ rb 72 _
  simp only [hlen]
  exact (hoth rb hne).trans h.blk
 ·show RowX X _ 111 2 vf (p.files.set i ((p.file i).set m s)).length (flcells V (p.files.set i ((p.file i).set m s)).length)
  rw [hlen]
  exact h.fl.farset hb (by decide)
 ·have hj':j<p.files.length:=by rw [hlen] at hj;exact hj
  rw [hfile]
  show _=(if j=i then (L i).set m (s,sv) else L j).map (·.1)
  by_cases e:j=i
  ·subst e;rw [if_pos rfl,if_pos rfl,List.map_set,←h.lp j hi]
  ·rw [if_neg e,if_neg e];exact h.lp j hj'
 ·have hj':j<p.files.length:=by rw [hlen] at hj;exact hj
  have hy':y∈(if j=i then (L i).set m (s,sv) else L j):=hy
  by_cases e:j=i
  ·rw [if_pos e] at hy'
   rcases List.mem_or_eq_of_mem_set hy' with h1 | h1
   ·exact (h.ls i hi y h1).keep hk
   ·rw [h1];exact hs.keep hk
  ·rw [if_neg e] at hy';exact (h.ls j hj' y hy').keep hk
 ·have hj':j<p.files.length:=by rw [hlen] at hj;exact hj
  show RowX X _ 36 1 (V j) (if j=i then (L i).set m (s,sv) else L j).length ((if j=i then (L i).set m (s,sv) else L j).map (·.2))
  by_cases e:j=i
  ·subst e
   rw [if_pos rfl,List.length_set,List.map_set,hV,hl]
   exact hrow.set (by omega) sv
  ·rw [if_neg e]
   exact (h.row j hj').keep (fun k cs hx hk' h3=>(hoth k (fun e2=>by subst e2;exact e (h.inj j i k hj' hi hk' (by rw [hV];rfl)))).trans h3) (fun _ h=>h)
 ·exact h.inj j l k (by rw [hlen] at hj;exact hj) (by rw [hlen] at hl';exact hl')
theorem RefV.growS (h:RefV X w rb vd vc vf vw V L W p) (hX:∀ k,X k→X' k) {i:Nat} (hi:i<p.files.length) {g c:Nat} (hvf:vf=.slice (some ⟨g,0,none⟩) p.files.length c) {v':Value} {sv:Value} {s:ByteArray} (hg:w.grownBy w3 (V i).ownBlock)
 (hr:RowX X' w3 36 1 v' ((L i).length+1) ((L i).map (·.2)++[sv])) (ho:v'.ownBlock=(V i).ownBlock∨∀ k,v'.ownBlock=some k→¬ X k) (hs:SecW w sv s) :
 RefV X' (w3.setCell ⟨g,i*2+1,none⟩ v') rb vd vc vf vw (updV V i v') (fun j=>if j=i then L i++[(s,sv)] else L j) W {p with files:=p.files.set i (p.file i++[s])}:=by
 have hs3:Same (RTx 36) X w w3:=same_grown (h.row i hi) hg (fun e=>e.2 rfl)
 have hk:=kb_grown (h.row i hi) hg (by decide)
 have hb3:=hs3 rb _ _ ⟨rt_disk,by decide⟩ h.inX h.blk
 have hfl3:=h.fl.same hs3 ⟨rt_fl,by decide⟩ hX
 subst hvf
 obtain ⟨cur,hblk⟩:=hfl3.block (k:=g) rfl
 have hb:Blk w3 g 111 cur:=hblk
 have hoth:∀ k,k≠g→(w3.setCell ⟨g,i*2+1,none⟩ v').heap[k]?=w3.heap[k]?:=fun k hk=>Below.heap_setCell _ _ _ _ hk
 have hk2:=hk.trans (kb_set (o:=i*2+1) (u:=v') hb (by decide))
 have hlen:(p.files.set i (p.file i++[s])).length=p.files.length:=by simp
 have hfile:∀ j,({p with files:=p.files.set i (p.file i++[s])}:DP).file j=if j=i then p.file i++[s] else p.file j:=fun j=>file_set p i _ j hi
 refine ⟨?_,hX _ h.inX,(h.dir.same hs3 ⟨rt_en,by decide⟩ hX).farset hb (by decide),(h.chs.same hs3 ⟨rt_ch,by decide⟩ hX).farset hb (by decide),?_,(h.wrs.same hs3 ⟨rt_wr,by decide⟩ hX).farset hb (by decide),h.wp,fun y hy=>(h.ws y hy).keep hk2,fun j hj=>?_,fun j hj y hy=>?_,fun j hj=>?_,fun j l k hj hl=>?_⟩
 ·have hne:rb≠g:=fun e=>by subst e;have:=hb3;unfold Blk at hb;rw [this] at hb;cases hb
  show Blk _ rb 72 _
  simp only [hlen]
  exact (hoth rb hne).trans hb3
 ·show RowX X' _ 111 2 _ (p.files.set i (p.file i++[s])).length (flcells (updV V i v') (p.files.set i (p.file i++[s])).length)
  rw [hlen,←fl_set hi]
  exact hfl3.set (by omega) v'
 ·have hj':j<p.files.length:=by rw [hlen] at hj;exact hj
  rw [hfile]
  show _=(if j=i then L i++[(s,sv)] else L j).map (·.1)
  by_cases e:j=i
  ·subst e;rw [if_pos rfl,if_pos rfl,List.map_append,←h.lp j hi];rfl
  ·rw [if_neg e,if_neg e];exact h.lp j hj'
 ·have hj':j<p.files.length:=by rw [hlen] at hj;exact hj
  have hy':y∈(if j=i then L i++[(s,sv)] else L j):=hy
  by_cases e:j=i
  ·rw [if_pos e] at hy'
   rcases List.mem_append.1 hy' with h1 | h1
   ·exact (h.ls i hi y h1).keep hk2
   ·obtain rfl:=List.mem_singleton.1 h1;exact hs.keep hk2
  ·rw [if_neg e] at hy';exact (h.ls j hj' y hy').keep hk2
 ·have hj':j<p.files.length:=by rw [hlen] at hj;exact hj
  show RowX X' _ 36 1 (updV V i v' j) (if j=i then L i++[(s,sv)] else L j).length ((if j=i then L i++[(s,sv)] else L j).map (·.2))
  unfold updV
  by_cases e:j=i
  ·subst e
   rw [if_pos rfl,if_pos rfl,List.length_append,List.map_append]
   exact hr.farset hb (by decide)
  ·rw [if_neg e,if_neg e]
   have h3:RowX X' w3 36 1 (V j) (L j).length ((L j).map (·.2)):=(h.row j hj').keep (fun k cs hx hk' h3=>(hg.block k (Array.getElem?_eq_some_iff.1 h3).1 (fun e2=>e (h.inj j i k hj' hi hk' e2.symm))).trans h3) hX
   exact h3.farset hb (by decide)
 ·have hj':j<p.files.length:=by rw [hlen] at hj;exact hj
  have hl':l<p.files.length:=by rw [hlen] at hl;exact hl
  show (updV V i v' j).ownBlock=some k→(updV V i v' l).ownBlock=some k→j=l
  unfold updV
  by_cases e:j=i <;> by_cases e2:l=i
  ·intros;rw [e,e2]
  ·rw [if_pos e,if_neg e2]
   intro h1 h2
   rcases ho with ho | ho
   ·rw [ho] at h1;exact e.trans (h.inj i l k hi hl' h1 h2)
   ·exact absurd ((h.row l hl').2 k h2) (ho k h1)
  ·rw [if_neg e,if_pos e2]
   intro h1 h2
   rcases ho with ho | ho
   ·rw [ho] at h2;exact (h.inj j i k hj' hi h1 h2).trans e2.symm
   ·exact absurd ((h.row j hj').2 k h1) (ho k h2)
  ·rw [if_neg e,if_neg e2];exact h.inj j l k hj' hl'
def lensP (p:DP) (l:List En):Nat:=(l.map fun e=>(p.file e.id).length).sum
theorem lensP_le (hw:WF p):∀ l:List En,lensP p l≤l.length*4096
 | []=>by simp [lensP]
 | e::l=>by
  have:=lensP_le hw l
  have h1:=hw.file_len e.id
  have e2:lensP p (e::l)=(p.file e.id).length+lensP p l:=by simp [lensP]
  rw [e2,List.length_cons];omega
theorem lensP_succ {l:List En} {k:Nat} {x:En} (hx:l[k]?=some x):lensP p (l.take (k+1))=lensP p (l.take k)+(p.file x.id).length:=by
 unfold lensP
 rw [List.take_add_one,hx];simp
set_option maxHeartbeats 4000000 in
set_option maxRecDepth 100000 in
theorem RUsed_any (h:RefV X w rb vd vc vf vw V L W p) (hw:WF p) (hc:p.chs.length≤1000) (hf:p.files.length≤1000) :
 Calls Tryz.prog 87 #[.pointer (some ⟨rb,0,none⟩)] w fun e w'=>e=.returned (.int .i64 p.used)∧Below w.heap.size w w':=by
 have hN:=RNow_any h hw hc
 have hlen:=hw.now.len
 have hids:∀ x∈p.now,x.id<p.files.length:=fun x hx=>hw.ids _ (p.now_live x hx)
 obtain ⟨Af,cf,rfl⟩:=h.fl.form
 have hA:∀ (i:Nat) W0,i<p.files.length→Below w.heap.size w W0→Calls Tryz.prog 64 #[.pointer (some ⟨rb,0,none⟩),.int .i64 i] W0 fun e w'=>e=.returned (.int .i64 i)∧W0=w':=fun i W0 hi hb=>RAt_go (h.below hb) hi (by omega)
 have hu:p.used=lensP p p.now:=rfl
 rw [hu]
 have hle:=lensP_le hw
 obtain ⟨D,hD⟩:∃ D,p.now=D:=⟨_,rfl⟩
 rw [hD] at hN hlen hids ⊢
 clear hD hu
 obtain ⟨U,hU⟩:∃ U,lensP p D=U:=⟨_,rfl⟩
 rw [hU]
 have HU:=Lib.hid hU
 clear hU
 go_enter Tryz.func87,Tryz.ntmps87
 go_wp2_with (go_at_call 86;refine hN.mono ?_;rintro e w1 ⟨v,rfl,hr,hb⟩;obtain ⟨A,c,rfl⟩:=hr.form)
 go_loopw [3,5] (fun n i wr=>Below w1.heap.size w1 wr∧∃ k:Nat,k≤D.length∧i=.int .i64 k∧n=.int .i64 (lensP p (D.take k))) (fun _ i _=>D.length-(intOf i).toNat)
 case atStart=>exact ⟨Below.refl _ _,0,Nat.zero_le _,rfl,rfl⟩
 case round =>
  obtain ⟨hbr,k,hk,rfl,rfl⟩:=hrel
  have hbw:Below w.heap.size w wr:=hb.trans (hbr.mono hb.size)
  have hle1:=hle (D.take k)
  rw [List.length_take] at hle1
  by_cases hlt:k<D.length
  ·have d1:decide (k<D.length)=true:=by simpa using hlt
   obtain ⟨x,hx⟩:∃ x,D[k]?=some x:=⟨_,List.getElem?_eq_getElem hlt⟩
   obtain ⟨gl,cur,rfl,hg,hcur⟩:=EnRow.of_row hr (by omega)
   have e1:wr.cell? ⟨gl,k*2+1,none⟩=some (.int .i64 x.id):=(hbr.cell (p:=⟨gl,k*2+1,none⟩) hg.lt).trans ((hg.cell _).trans (hcur _ _ ((en_at hx 1 (by omega)).trans rfl)))
   have hi:=hids x (List.mem_of_getElem? hx)
   obtain ⟨g,c2,A',c',hvf,hV,hgl,hXg,hcell⟩:=h.file hi
   obtain ⟨rfl,_,rfl⟩:Af=some ⟨g,0,none⟩∧p.files.length=p.files.length∧cf=c2:=by simpa using hvf
   obtain ⟨q0,q1⟩:=hcell wr hbw
   have k3:wr.cell? ⟨rb,3,none⟩=some (.slice (some ⟨g,0,none⟩) p.files.length cf):=(h.below hbw).blk.cell 3
   have i0:(0:Int)≤(x.id:Int):=by omega
   have i1:(x.id:Int)<(p.files.length:Int):=by omega
   have l0:(0:Int)≤(k:Int):=by omega
   have l1:(k:Int)<(D.length:Int):=by omega
   have hsu:=lensP_succ (p:=p) hx
   have hfl4:=hw.file_len x.id
   have HS:=Lib.hid hsu
   clear hsu hcur hx hle
   obtain ⟨S0,hS0⟩:∃ S0,lensP p (D.take k)=S0:=⟨_,rfl⟩
   rw [hS0] at hle1 ⊢
   have HS0:=Lib.hid hS0
   clear hS0
   have hs1:(S0:Int)≤32768:=by omega
   go_wp2_with fail
   go_quiet (exact Calls.quiet_of_same ((hA _ _ hi (below_drewN hbw _)).mono (fun e w' h=>⟨h.1,h.2.symm⟩)))
   go_wp2
   go_roundw
   case rel=>exact ⟨below_drewN hbr _,k+1,by omega,by go_num,by rw [HS.out,HS0.out];rfl⟩
   case measure=>simp [intOf];omega
  ·obtain rfl:k=D.length:=by omega
   have d1:decide (D.length<D.length)=false:=by simp
   rw [List.take_length] at hle1 ⊢
   obtain rfl:lensP p D=U:=HU.out
   go_wp2
   go_ret
   exact ⟨rfl,hbw⟩
end
end
end Go.Proofs.YtekajggjoeimoaaGreatDoor
namespace Go.Proofs.YtekajggjoeimoaaGreatDoor
open Go.RowKit
def rowLen (wr:World) (a:Addr):Nat:=match wr.cell? a with
 | some (.slice _ n _)=>n
 | _=>0
section
variable {X X':Nat→Prop} {w w' w1 w2 w3:World} {rb:Nat} {vd vc vf vw:Value} {V:Nat→Value} {L:Nat→List (ByteArray × Value)} {W:List (PW × Value)} {nx:Int} {p:DP}
theorem RefV.bound (h:RefV X w rb vd vc vf vw V L W p):RefV (fun k=>X k∧k<w.heap.size) w rb vd vc vf vw V L W p :=
 h.only.keep (fun k hk=>⟨hk.1,by obtain ⟨cs,t,_,h⟩:=hk.2;exact (Array.getElem?_eq_some_iff.1 h).1⟩) Same.refl (KB.refl _)
def GrowRel (X:Nat→Prop) (w w3:World) (rb g cf:Nat) (vd vc vw:Value) (W:List (PW × Value)) (q:DP) (i m:Nat) (wr:World):Prop :=
 ∃ j V L,(q.file i).length+j≤m∧RefV (fun k=>More X w3 k∧k<wr.heap.size) wr rb vd vc (.slice (some ⟨g,0,none⟩) q.files.length cf) vw V L W {q with files:=q.files.set i (q.file i++List.replicate j zeroS)}∧Fr X w wr∧w3.heap.size≤wr.heap.size
theorem z64_sec (W:World):SecW (W.alloc (.cells Z64 5)) (.slice (some ⟨W.heap.size,0,none⟩) 64 64) zeroS:=by
 refine ⟨zeroS_size,W.heap.size,64,Z64,rfl,heap_alloc_new W _,fun j hj=>?_⟩
 have e:zeroS.data.toList.getD j 0=0:=by
  have:zeroS.data.toList=List.replicate 64 0:=rfl
  rw [this,List.getD_eq_getElem?_getD,List.getElem?_replicate,if_pos hj];rfl
 rw [e]
 unfold Z64 madeCells
 simp [hj,Nat.mod_one]
set_option maxHeartbeats 4000000 in
set_option maxRecDepth 100000 in
theorem RGrow_any (h:RA X w rb p) (nm:ByteArray) (n:Int) :
 Calls Tryz.prog 38 #[.pointer (some ⟨rb,0,none⟩),.string nm,.int .i64 n] w fun e w'=>e=.returned (.int .i64 (growP p nm n).1)∧RL X w rb (growP p nm n).2 w':=by
 obtain ⟨⟨vd,vc,vf,vw,V,L,W,hv⟩,hw,hlt,hnb,ha,hc,hww,hfl⟩:=h
 obtain ⟨w1,hF,hR,hN⟩:=RFails_any hv ha
 have hw1:=hw.fail
 obtain ⟨f1,f2,f3,f4,f5⟩:=failP_files p
 simp only [growP]
 by_cases e1:(failP p).1≠0
 ·rw [if_pos e1]
  have d1:((failP p).1 != 0)=true:=by simpa using e1
  go_enter Tryz.func38,Tryz.ntmps38
  go_wp2_with (go_at_call 85;refine hF.mono ?_;rintro e w9 ⟨rfl,h9⟩;obtain rfl:w1=w9:=h9.symm)
  go_ret
  exact ⟨rfl,hv.step hN (Below.refl _ _) hR⟩
 ·rw [if_neg e1]
  have e0:(failP p).1=0:=by simpa using e1
  rw [e0] at hF
  have hI:=RId_any hR hw1 (by rw [f2];exact hc) nm
  obtain ⟨q,hq⟩:∃ q,(failP p).2=q:=⟨_,rfl⟩
  rw [hq] at hR hw1 hI f1 f2 f4 ⊢
  have hqc:q.chs.length≤1000:=by rw [f2];exact hc
  have hqf:q.files.length≤1000:=by rw [f1];exact hfl
  have hqw:q.wrs.length≤1000:=by rw [f4];exact hww
  clear f1 f2 f3 f4 f5 hq
  cases hfd:findP nm q.now with
  | none =>
   rw [hfd] at hI
   go_enter Tryz.func38,Tryz.ntmps38
   go_wp2_with (first
    | (go_at_call 85;refine hF.mono ?_;rintro e w9 ⟨rfl,h9⟩;obtain rfl:w1=w9:=h9.symm)
    | (go_at_call 63;refine hI.mono ?_;rintro e w2 ⟨rfl,hb2⟩))
   go_ret
   exact ⟨rfl,hv.step hN hb2 hR⟩
  | some i =>
   rw [hfd] at hI
   have hi:=(hw1.find hfd).2
   have hlen:=hw1.file_len i
   obtain ⟨g,c,A',c',rfl,hV,hgl,hXg,hcell⟩:=hR.file hi
   have hA:∀ W0,Below w1.heap.size w1 W0→Calls Tryz.prog 64 #[.pointer (some ⟨rb,0,none⟩),.int .i64 i] W0 fun e w'=>e=.returned (.int .i64 i)∧W0=w':=fun W0 hb=>RAt_go (hR.below hb) hi (by omega)
   have b3:∀ W0,Below w1.heap.size w1 W0→W0.cell? ⟨rb,3,none⟩=some (.slice (some ⟨g,0,none⟩) q.files.length c):=fun W0 hb=>(hR.below hb).blk.cell 3
   have b0:∀ W0,Below w1.heap.size w1 W0→W0.cell? ⟨rb,0,none⟩=some (.int .i64 q.room):=fun W0 hb=>(hR.below hb).blk.cell 0
   have hcl1:∀ W0,Below w1.heap.size w1 W0→W0.cell? ⟨g,i*2+1,none⟩=some (.slice A' (q.file i).length c'):=fun W0 hb=>(hcell W0 hb).2
   have i0:(0:Int)≤(i:Int):=by omega
   have i1:(i:Int)<(q.files.length:Int):=by omega
   simp only
   by_cases h2:n<(q.file i).length∨4096<n
   ·rw [if_pos h2]
    by_cases h3:n<(q.file i).length
    ·have d3:decide (n<((q.file i).length:Int))=true:=by simpa using h3
     go_enter Tryz.func38,Tryz.ntmps38
     go_wp2_with (first
      | (go_at_call 85;refine hF.mono ?_;rintro e w9 ⟨rfl,h9⟩;obtain rfl:w1=w9:=h9.symm)
      | (go_at_call 63;refine hI.mono ?_;rintro e w2 ⟨rfl,hb2⟩;have k3:=b3 w2 hb2;have q1:=hcl1 w2 hb2))
     go_quiet (exact Calls.quiet_of_same ((hA _ (below_drewN hb2 _)).mono (fun e w' h=>⟨h.1,h.2.symm⟩)))
     go_wp2
     go_ret
     exact ⟨rfl,hv.step hN (below_drewN hb2 _) hR⟩
    ·have d3:decide (n<((q.file i).length:Int))=false:=by simpa using h3
     have d4:decide (4096<n)=true:=by simp;omega
     go_enter Tryz.func38,Tryz.ntmps38
     go_wp2_with (first
      | (go_at_call 85;refine hF.mono ?_;rintro e w9 ⟨rfl,h9⟩;obtain rfl:w1=w9:=h9.symm)
      | (go_at_call 63;refine hI.mono ?_;rintro e w2 ⟨rfl,hb2⟩;have k3:=b3 w2 hb2;have q1:=hcl1 w2 hb2))
     go_quiet (exact Calls.quiet_of_same ((hA _ (below_drewN hb2 _)).mono (fun e w' h=>⟨h.1,h.2.symm⟩)))
     go_wp2
     go_ret
     exact ⟨rfl,hv.step hN (below_drewN hb2 _) hR⟩
   ·rw [if_neg h2]
    obtain ⟨m,rfl⟩:∃ m:Nat,n=m:=⟨n.toNat,by omega⟩
    have hu:=lensP_le hw1 q.now
    have hn8:=hw1.now.len
    have hU:∀ W0,Below w1.heap.size w1 W0→Calls Tryz.prog 87 #[.pointer (some ⟨rb,0,none⟩)] W0 fun e w'=>e=.returned (.int .i64 q.used)∧Below W0.heap.size W0 w':=fun W0 hb=>RUsed_any (hR.below hb) hw1 hqc hqf
    have hus:q.used=lensP q q.now:=rfl
    obtain ⟨u,hu0⟩:∃ u,q.used=u:=⟨_,rfl⟩
    rw [←hus,hu0] at hu
    rw [hu0] at hU ⊢
    obtain ⟨kn,hkn⟩:∃ kn,(q.file i).length=kn:=⟨_,rfl⟩
    rw [hkn] at hcl1 hlen h2 ⊢
    have HKN:=Lib.hid hkn
    clear hkn hcell hV hus hu0
    have hu2:u≤32768:=by omega
    clear hu hn8
    have d3:decide ((m:Int)<(kn:Int))=false:=by simp;omega
    have d4:decide ((4096:Int)<(m:Int))=false:=by simp;omega
    have hs1:IntKind.i64.wrap ((u:Int)+(m:Int))=(u:Int)+(m:Int):=by rw [IntKind.wrap_i64];omega
    have hs2:IntKind.i64.wrap ((u:Int)+(m:Int)-(kn:Int))=(u:Int)+(m:Int)-(kn:Int):=by rw [IntKind.wrap_i64];omega
    by_cases h3:q.room<(u:Int)+m-kn
    ·rw [if_pos h3]
     have d5:decide (q.room<(u:Int)+m-kn)=true:=by simpa using h3
     go_enter Tryz.func38,Tryz.ntmps38
     go_wp2_with (first
      | (go_at_call 85;refine hF.mono ?_;rintro e w9 ⟨rfl,h9⟩;obtain rfl:w1=w9:=h9.symm)
      | (go_at_call 63;refine hI.mono ?_;rintro e w2 ⟨rfl,hb2⟩;have k3:=b3 w2 hb2;have q1:=hcl1 w2 hb2))
     go_quiet (exact Calls.quiet_of_same ((hA _ (below_drewN hb2 _)).mono (fun e w' h=>⟨h.1,h.2.symm⟩)))
     have hb3:=below_drewN hb2 nq
     obtain ⟨w3,hw3⟩:∃ w3,w2.drewN nq=w3:=⟨_,rfl⟩
     rw [hw3] at hb3 ⊢
     clear hw3 k3 q1
     have q1:=hcl1 w3 hb3
     have k0:=b0 w3 hb3
     go_wp2
     go_region_held3 (fun W0=>W0.cell? ⟨g,i*2+1,none⟩=some (.slice A' kn c')∧W0.cell? ⟨rb,0,none⟩=some (.int .i64 q.room))
      (first
       | exact ⟨q1,k0⟩
       | exact ⟨hcl1 _ hb4,b0 _ hb4⟩)
      ((go_at_call 87;refine (hU _ hb3.drew).mono ?_;rintro e w4 ⟨rfl,hb4'⟩;have hb4:Below w1.heap.size w1 w4:=hb3.drew.trans (hb4'.mono hb3.drew.size)))
     go_wp2
     go_ret
     exact ⟨rfl,hv.step hN hb4 hR⟩
    ·rw [if_neg h3]
     have d5:decide (q.room<(u:Int)+m-kn)=false:=by simpa using h3
     go_enter Tryz.func38,Tryz.ntmps38
     go_wp2_with (first
      | (go_at_call 85;refine hF.mono ?_;rintro e w9 ⟨rfl,h9⟩;obtain rfl:w1=w9:=h9.symm)
      | (go_at_call 63;refine hI.mono ?_;rintro e w2 ⟨rfl,hb2⟩;have k3:=b3 w2 hb2;have q1:=hcl1 w2 hb2))
     go_quiet (exact Calls.quiet_of_same ((hA _ (below_drewN hb2 _)).mono (fun e w' h=>⟨h.1,h.2.symm⟩)))
     have hb3:=below_drewN hb2 nq
     obtain ⟨w3,hw3⟩:∃ w3,w2.drewN nq=w3:=⟨_,rfl⟩
     rw [hw3] at hb3 ⊢
     clear hw3 k3 q1
     have q1:=hcl1 w3 hb3
     have k0:=b0 w3 hb3
     go_wp2
     go_region_held3 (fun W0=>W0.cell? ⟨g,i*2+1,none⟩=some (.slice A' kn c')∧W0.cell? ⟨rb,0,none⟩=some (.int .i64 q.room))
      (first
       | exact ⟨q1,k0⟩
       | exact ⟨hcl1 _ hb4,b0 _ hb4⟩)
      ((go_at_call 87;refine (hU _ hb3.drew).mono ?_;rintro e w4 ⟨rfl,hb4'⟩;have hb4:Below w1.heap.size w1 w4:=hb3.drew.trans (hb4'.mono hb3.drew.size)))
     have hR4:=hR.below hb4
     have g4:Fr X w w4:=(hN.fr' hv.inX).trans (Fr.of_below hb4)
     have hRb:=hR4.bound.keep (X':=fun k=>More X w4 k∧k<w4.heap.size) (fun k hk=>⟨.inl hk.1,hk.2⟩) Same.refl (KB.refl _)
     have hq0:({q with files:=q.files.set i (q.file i++List.replicate 0 zeroS)}:DP)=q:=by
      have:q.files.set i (q.file i++List.replicate 0 zeroS)=q.files:=by
       rw [List.replicate_zero,List.append_nil]
       unfold DP.file
       rw [List.getD_eq_getElem?_getD,List.getElem?_eq_getElem hi]
       simp
      rw [this]
     have hst:GrowRel X w w4 rb g c vd vc vw W q i m w4:=⟨0,V,L,by rw [HKN.out];omega,by rw [hq0];exact hRb,g4,Nat.le_refl _⟩
     have HST:=Lib.hid hst
     have HQ:=Lib.hid (And.intro hb4 (And.intro hR4 g4))
     have hm4:m≤4096:=by omega
     clear hst hq0 hRb hb4 hR4 g4 hb3 q1 k0 hcl1 b3 b0 hA hU hR hF hI hs1 hs2 d3 d4 d5 h3 hu2
     go_wp2
     go_loopw [60] (fun _ wr=>GrowRel X w w4 rb g c vd vc vw W q i m wr) (fun _ wr=>m-rowLen wr ⟨g,i*2+1,none⟩)
     case atStart=>exact HST.out
     case round =>
      obtain ⟨j,V',L',hj,hRj,hfr,hsz⟩:=hrel
      have hij:i<({q with files:=q.files.set i (q.file i++List.replicate j zeroS)}:DP).files.length:=by show i<(q.files.set i _).length;simpa using hi
      have hfj:({q with files:=q.files.set i (q.file i++List.replicate j zeroS)}:DP).file i=q.file i++List.replicate j zeroS:=(file_set q i _ i hi).trans (if_pos rfl)
      have hlj:(({q with files:=q.files.set i (q.file i++List.replicate j zeroS)}:DP).file i).length=kn+j:=by rw [hfj,List.length_append,List.length_replicate,HKN.out]
      obtain ⟨g',c2,A2,c3,hvf,hV2,hgl2,hXg2,hcell2⟩:=hRj.file hij
      obtain ⟨rfl,_⟩:g=g'∧True:=by
       simp only [Value.slice.injEq,Option.some.injEq,Addr.mk.injEq] at hvf
       exact ⟨hvf.1.1,trivial⟩
      have q1:=(hcell2 wr (Below.refl _ _)).2
      rw [hlj] at q1 hV2
      obtain ⟨kl,hkl⟩:∃ kl,kn+j=kl:=⟨_,rfl⟩
      rw [hkl] at q1 hV2
      have hrl:rowLen wr ⟨g,i*2+1,none⟩=kl:=by unfold rowLen;rw [q1]
      rw [hrl]
      rw [HKN.out,hkl] at hj
      have HF:=Lib.hid (And.intro hkl (And.intro hfj (And.intro hlj (And.intro hvf hij))))
      clear hkl hfj hlj hvf hij hrl hcell2
      by_cases hlt:kl<m
      ·have d1:decide (kl<m)=true:=by simpa using hlt
       have hbZ:Below wr.heap.size wr ((wr.alloc (.cells Z64 5)).alloc (.cells #[.slice (some ⟨wr.heap.size,0,none⟩) 64 64] 36)).drew:=(((Below.refl _ wr).alloc (Nat.le_refl _) _).alloc (by simp) _).drew
       have hRZ:=hRj.below hbZ
       have hsecZ:=((z64_sec wr).keep (KB.of_below ((Below.refl _ (wr.alloc (.cells Z64 5))).alloc (Nat.le_refl _) (.cells #[.slice (some ⟨wr.heap.size,0,none⟩) 64 64] 36))))
       have hrowZ:=hRZ.row i HF.out.2.2.2.2
       have hLl:(L' i).length=kl:=by
        have h1:=hRZ.lp i HF.out.2.2.2.2
        have h2:=congrArg List.length h1
        rw [HF.out.2.2.1,HF.out.1] at h2
        simpa using h2.symm
       rw [hV2,hLl] at hrowZ
       have gb:=(Array.getElem?_eq_some_iff.1 (hRZ.fl.block (k:=g) rfl).choose_spec).1
       obtain ⟨curg,hbg0⟩:=hRj.fl.block (k:=g) rfl
       have hbg:Blk wr g 111 curg:=hbg0
       have hbgZ:=(hbZ.block g hbg.lt).trans hbg
       have hqg:curg[i*2+1]?=some (.slice A2 kl c3):=by rw [←hbg.cell];exact q1
       have hmk:=mk64 wr.drew
       have hWs:((wr.alloc (.cells Z64 5)).alloc (.cells #[.slice (some ⟨wr.heap.size,0,none⟩) 64 64] 36)).drew.heap.size=wr.heap.size+2:=by
        show ((wr.alloc (.cells Z64 5)).alloc (.cells #[.slice (some ⟨wr.heap.size,0,none⟩) 64 64] 36)).heap.size=wr.heap.size+2
        simp
       have HWs:=Lib.hid hWs
       clear hWs
       go_wp2
       refine regionE 8 (fun W0=>W0.cell? ⟨g,i*2+1,none⟩=some (.slice A2 kl c3)) (by kernel_rfl) (by kernel_rfl) (by kernel_rfl) (by kernel_rfl) (by kernel_rfl) (q1) (fun hHeld hTl=>?_)
       refine tkT 0 (v:=?_) hTl hHeld rfl ?_ (fun hTl=>?_);rotate_left
       ·intro w hSw;(try dsimp only at hSw);go_simp;all_goals with_reducible rfl
       try simp only [pT]
       refine tkT 1 (v:=?_) hTl hHeld rfl ?_ (fun hTl=>?_);rotate_left
       ·intro w hSw;(try dsimp only at hSw);go_simp;all_goals with_reducible rfl
       try simp only [pT]
       refine tkT 2 (v:=?_) hTl hHeld rfl ?_ (fun hTl=>?_);rotate_left
       ·intro w hSw;(try dsimp only at hSw);go_simp;all_goals with_reducible rfl
       try simp only [pT]
       refine tkT 3 (v:=?_) hTl hHeld rfl ?_ (fun hTl=>?_);rotate_left
       ·intro w hSw;(try dsimp only at hSw);go_simp;all_goals with_reducible rfl
       try simp only [pT]
       refine tkT 4 (v:=?_) hTl hHeld rfl ?_ (fun hTl=>?_);rotate_left
       ·intro w hSw;(try dsimp only at hSw);go_simp;all_goals with_reducible rfl
       try simp only [pT]
       clear hTl
       refine oneE 5 rfl (by kernel_rfl) (fun K hK=>?_)
       go_simp
       refine hK.out _ _ (fun _=>((hbg.alloc _).cell _).trans hqg) ?_
       clear hK K
       try simp only [pT]
       refine oneE 6 rfl (by kernel_rfl) (fun K hK=>?_)
       go_simp
       refine hK.out _ _ (fun _=>(((hbg.alloc _).alloc _).cell _).trans hqg) ?_
       clear hK K
       try simp only [pT]
       refine oneE 7 rfl (by kernel_rfl) (fun K hK=>?_)
       refine step_push TSS (by rfl) (by rfl) 0 (by rfl) hrowZ.1 (by rfl) (reads_blk (cs:=#[.slice (some ⟨wr.heap.size,0,none⟩) 64 64]) (blk_drew (blk_newH (wr.alloc (.cells Z64 5)) _ _ (by simp))) rfl) (by intro u hu;simp at hu;subst hu;rfl) (by omega) (Nat.zero_le _) rfl (ys:=(L' i).map (·.2)++[.slice (some ⟨wr.heap.size,0,none⟩) 64 64]) rfl ?_
       intro A9 c9 w9 ho9 hg9 hl9;have b9:=blk_grown hbgZ hg9 (blk_apart hbgZ hrowZ (by decide)).symm;have z9:=(b9.cell (i*2+1)).trans hqg;have y9:=b9.frozen (i*2+1)
       refine hK.out _ _ (fun _=>z9) ?_
       clear hK K
       try simp only [pT]
       refine oneE 8 rfl (by kernel_rfl) (fun K hK=>?_)
       go_simp
       refine hK.out _ _ (fun h=>absurd h (by decide)) ?_
       clear hK K
       try simp only [pT]
       refine oneE 9 rfl (by kernel_rfl) (fun K hK=>?_)
       go_simp
       refine hK.out _ _ (fun h=>absurd h (by decide)) ?_
       clear hK K
       try simp only [pT]
       refine oneE 10 rfl (by kernel_rfl) (fun K hK=>?_)
       go_simp
       refine hK.out _ _ (fun h=>absurd h (by decide)) ?_
       clear hK K
       try simp only [pT]
       refine doneE (by kernel_rfl) ?_ _
       go_wp2
       go_roundw
       case rel =>
        have n9:=hg9.size
        rw [HWs.out] at n9 hl9
        have hs9:(w9.setCell ⟨g,i*2+1,none⟩ (.slice A9 (kl+1) c9)).heap.size=w9.heap.size:=by simp [World.setCell]
        have hown9:∀ k,(Value.slice A9 (kl+1) c9).ownBlock=some k→(Value.slice A2 kl c3).ownBlock=some k∨k=wr.heap.size+2:=fun k hk=>by
         rcases hl9 with e | e
         ·rw [e] at hk;exact .inl hk
         ·rw [e] at hk;cases hk;exact .inr rfl
        have hlt9:∀ k,(Value.slice A9 (kl+1) c9).ownBlock=some k→k<w9.heap.size:=fun k hk=>(ho9.lt k hk).2
        have hR9:=hRZ.growS (X':=fun k=>More X w4 k∧k<w9.heap.size) (v':=.slice A9 (kl+1) c9) (fun k hk=>⟨hk.1,by have:=hk.2;omega⟩) HF.out.2.2.2.2 HF.out.2.2.2.1 (by rw [hV2];exact hg9)
         (by rw [hLl];exact ⟨ho9,fun k hk=>⟨by
          rcases hown9 k hk with h1 | h1
          ·exact (hrowZ.2 k h1).1
          ·right;omega,hlt9 k hk⟩⟩)
         (by
          rw [hV2]
          rcases hl9 with e | e
          ·exact .inl e
          ·right
           intro k hk hx
           rw [e] at hk;cases hk
           have:=hx.2
           omega) hsecZ
        have hpe:({q with files:=(q.files.set i (q.file i++List.replicate j zeroS)).set i (({q with files:=q.files.set i (q.file i++List.replicate j zeroS)}:DP).file i++[zeroS])}:DP)={q with files:=q.files.set i (q.file i++List.replicate (j+1) zeroS)}:=by
         rw [HF.out.2.1,List.set_set,List.append_assoc,←List.replicate_succ']
        refine ⟨j+1,updV V' i (.slice A9 (kl+1) c9),(fun l=>if l=i then L' i++[(zeroS,.slice (some ⟨wr.heap.size,0,none⟩) 64 64)] else L' l),?_,?_,?_,?_⟩
        ·rw [HKN.out];have:=HF.out.1;omega
        ·rw [hs9]
         have h1:=hR9
         change RefV _ _ _ _ _ _ _ _ _ _ ({q with files:=(q.files.set i (q.file i++List.replicate j zeroS)).set i (({q with files:=q.files.set i (q.file i++List.replicate j zeroS)}:DP).file i++[zeroS])}:DP) at h1
         rw [hpe] at h1
         exact h1
        ·obtain ⟨hb4,hR4,g4⟩:=HQ.out
         refine ((((hfr.alloc _).alloc _).drew).grown hg9 (fun k hk=>?_)).setCell (p:=⟨g,i*2+1,none⟩) (.inr hXg) _
         rcases (hrowZ.2 k hk).1 with h1 | h1
         ·exact .inr h1
         ·left;have:=hN.size;have:=hb4.size;omega
        ·rw [hs9];omega
       case measure =>
        have hz:rowLen (w9.setCell ⟨g,i*2+1,none⟩ (.slice A9 (kl+1) c9)) ⟨g,i*2+1,none⟩=kl+1:=by
         unfold rowLen
         have:=(b9.set_ (i*2+1) (.slice A9 (kl+1) c9)).cell (i*2+1)
         rw [this]
         have hcs:=(Array.getElem?_eq_some_iff.1 hqg).1
         simp [hcs]
        rw [hz];omega
      ·obtain rfl:kl=m:=by omega
       have d1:decide (kl<kl)=false:=by simp
       go_wp2
       go_ret
       obtain ⟨hb4,hR4,g4⟩:=HQ.out
       have hz:=hRj.keep (X':=More X w) (fun k hk=>hk.1.imp id (fun h=>by have:=hN.size;have:=hb4.size;omega)) Same.refl (KB.refl _)
       have hjj:j=kl-kn:=by have:=HF.out.1;omega
       rw [hjj] at hz
       exact ⟨rfl,⟨_,_,_,_,_,_,_,hz⟩,hfr⟩
end
end Go.Proofs.YtekajggjoeimoaaGreatDoor
namespace Go.Proofs
open Go.Shelf
def Tryz.keysA_ren:Go.Shelf.Ren:=⟨fun | 7=>56 | 10=>96 | n=>n,fun | 23=>62 | 26=>9 | 3=>98 | 28=>119 | 0=>0 | 27=>118 | 33=>133 | 4=>4 | n=>n,fun | n=>n⟩
theorem Tryz.keysA:Go.Proofs.SlLaysZ.n7 Tryz.prog Tryz.keysA_ren:={
 mixed:=by kernel_rfl
 f7:=⟨Tryz.f56.name,by decide,Tryz.func56.trans (congrArg some (by kernel_rfl))⟩
 f10:=⟨Tryz.f96.name,by decide,Tryz.func96.trans (congrArg some (by kernel_rfl))⟩
 t0:=Tryz.underlying0
 a0:=Tryz.isAgg0
 z0:=Tryz.sizeOf0
 v0:=Tryz.zeroValue0
 t4:=Tryz.underlying4
 a4:=Tryz.isAgg4
 z4:=Tryz.sizeOf4
 v4:=Tryz.zeroValue4
 t23:=Tryz.underlying62
 a23:=Tryz.isAgg62
 z23:=Tryz.sizeOf62
 v23:=Tryz.zeroValue62
 t26:=Tryz.underlying9
 a26:=Tryz.isAgg9
 z26:=Tryz.sizeOf9
 v26:=Tryz.zeroValue9
 t27:=Tryz.underlying118
 a27:=Tryz.isAgg118
 z27:=Tryz.sizeOf118
 v27:=Tryz.zeroValue118
 t28:=Tryz.underlying119
 a28:=Tryz.isAgg119
 z28:=Tryz.sizeOf119
 v28:=Tryz.zeroValue119
 t33:=Tryz.underlying133
 a33:=Tryz.isAgg133
 z33:=Tryz.sizeOf133
 v33:=Tryz.zeroValue133}
def Tryz.sortedA_ren:Go.Shelf.Ren:=⟨fun | 6=>55 | 8=>94 | 9=>95 | 11=>109 | 13=>111 | 12=>110 | 23=>125 | 24=>126 | 14=>116 | 15=>117 | 16=>118 | 17=>119 | 18=>120 | 19=>121 | 20=>122 | 21=>123 | 22=>124 | 25=>127 | 26=>128 | 27=>129 | 28=>130 | 29=>131 | 30=>132 | 31=>133 | n=>n,fun | 26=>9 | 28=>119 | 24=>90 | 0=>0 | 3=>3 | 37=>180 | 48=>208 | 50=>124 | 4=>4 | 40=>216 | 39=>215 | 45=>128 | 5=>5 | 9=>9 | 51=>224 | 55=>228 | 57=>230 | 58=>92 | 33=>133 | n=>n,fun | n=>n⟩
theorem Tryz.sortedA:Go.Proofs.SlLaysZ.n6 Tryz.prog Tryz.sortedA_ren:={
 mixed:=by kernel_rfl
 f6:=⟨Tryz.f55.name,by decide,Tryz.func55.trans (congrArg some (by kernel_rfl))⟩
 f8:=⟨Tryz.f94.name,by decide,Tryz.func94.trans (congrArg some (by kernel_rfl))⟩
 f11:=⟨Tryz.f109.name,by decide,Tryz.func109.trans (congrArg some (by kernel_rfl))⟩
 t0:=Tryz.underlying0
 a0:=Tryz.isAgg0
 z0:=Tryz.sizeOf0
 v0:=Tryz.zeroValue0
 t24:=Tryz.underlying90
 a24:=Tryz.isAgg90
 z24:=Tryz.sizeOf90
 v24:=Tryz.zeroValue90
 t26:=Tryz.underlying9
 a26:=Tryz.isAgg9
 z26:=Tryz.sizeOf9
 v26:=Tryz.zeroValue9
 t28:=Tryz.underlying119
 a28:=Tryz.isAgg119
 z28:=Tryz.sizeOf119
 v28:=Tryz.zeroValue119
 i26:=by kernel_rfl}
def Tryz.sortA_ren:Go.Shelf.Ren:=⟨fun | 6=>95 | 8=>111 | 9=>110 | 19=>125 | 20=>126 | 21=>116 | 22=>117 | 23=>118 | 24=>119 | 25=>120 | 26=>121 | 27=>122 | 28=>123 | 29=>124 | 36=>127 | 31=>128 | 32=>129 | 37=>130 | 38=>131 | 39=>132 | 41=>133 | n=>n,fun | 27=>90 | 29=>9 | 3=>3 | 32=>180 | 26=>90 | 0=>0 | 44=>208 | 46=>124 | 4=>4 | 36=>216 | 35=>215 | 41=>128 | 5=>5 | 9=>9 | 53=>224 | 57=>228 | 63=>230 | 64=>92 | n=>n,fun | n=>n⟩
theorem Tryz.sortA:Go.Proofs.SlLaysM.n6 Tryz.prog Tryz.sortA_ren:={
 mixed:=by kernel_rfl
 f6:=⟨Tryz.f95.name,by decide,Tryz.func95.trans (congrArg some (by kernel_rfl))⟩
 f8:=Tryz.func111.trans (congrArg some (by kernel_rfl))
 f9:=⟨Tryz.f110.name,by decide,Tryz.func110.trans (congrArg some (by kernel_rfl))⟩
 f19:=Tryz.func125.trans (congrArg some (by kernel_rfl))
 f20:=Tryz.func126.trans (congrArg some (by kernel_rfl))
 f21:=⟨Tryz.f116.name,by decide,Tryz.func116.trans (congrArg some (by kernel_rfl))⟩
 f22:=⟨Tryz.f117.name,by decide,Tryz.func117.trans (congrArg some (by kernel_rfl))⟩
 f23:=⟨Tryz.f118.name,by decide,Tryz.func118.trans (congrArg some (by kernel_rfl))⟩
 f24:=⟨Tryz.f119.name,by decide,Tryz.func119.trans (congrArg some (by kernel_rfl))⟩
 f25:=⟨Tryz.f120.name,by decide,Tryz.func120.trans (congrArg some (by kernel_rfl))⟩
 f26:=⟨Tryz.f121.name,by decide,Tryz.func121.trans (congrArg some (by kernel_rfl))⟩
 f27:=⟨Tryz.f122.name,by decide,Tryz.func122.trans (congrArg some (by kernel_rfl))⟩
 f28:=⟨Tryz.f123.name,by decide,Tryz.func123.trans (congrArg some (by kernel_rfl))⟩
 f29:=⟨Tryz.f124.name,by decide,Tryz.func124.trans (congrArg some (by kernel_rfl))⟩
 f31:=Tryz.func128.trans (congrArg some (by kernel_rfl))
 f32:=Tryz.func129.trans (congrArg some (by kernel_rfl))
 f36:=⟨Tryz.f127.name,by decide,Tryz.func127.trans (congrArg some (by kernel_rfl))⟩
 f37:=⟨Tryz.f130.name,by decide,Tryz.func130.trans (congrArg some (by kernel_rfl))⟩
 f38:=⟨Tryz.f131.name,by decide,Tryz.func131.trans (congrArg some (by kernel_rfl))⟩
 f39:=⟨Tryz.f132.name,by decide,Tryz.func132.trans (congrArg some (by kernel_rfl))⟩
 f41:=⟨Tryz.f133.name,by decide,Tryz.func133.trans (congrArg some (by kernel_rfl))⟩
 t0:=Tryz.underlying0
 a0:=Tryz.isAgg0
 z0:=Tryz.sizeOf0
 v0:=Tryz.zeroValue0
 t3:=Tryz.underlying3
 a3:=Tryz.isAgg3
 z3:=Tryz.sizeOf3
 v3:=Tryz.zeroValue3
 t4:=Tryz.underlying4
 a4:=Tryz.isAgg4
 z4:=Tryz.sizeOf4
 v4:=Tryz.zeroValue4
 t5:=Tryz.underlying5
 a5:=Tryz.isAgg5
 z5:=Tryz.sizeOf5
 v5:=Tryz.zeroValue5
 t9:=Tryz.underlying9
 a9:=Tryz.isAgg9
 z9:=Tryz.sizeOf9
 v9:=Tryz.zeroValue9
 t26:=Tryz.underlying90
 a26:=Tryz.isAgg90
 z26:=Tryz.sizeOf90
 v26:=Tryz.zeroValue90
 t27:=Tryz.underlying90
 a27:=Tryz.isAgg90
 z27:=Tryz.sizeOf90
 v27:=Tryz.zeroValue90
 t29:=Tryz.underlying9
 a29:=Tryz.isAgg9
 z29:=Tryz.sizeOf9
 v29:=Tryz.zeroValue9
 t32:=Tryz.underlying180
 a32:=Tryz.isAgg180
 z32:=Tryz.sizeOf180
 v32:=Tryz.zeroValue180
 t35:=Tryz.underlying215
 a35:=Tryz.isAgg215
 z35:=Tryz.sizeOf215
 v35:=Tryz.zeroValue215
 t36:=Tryz.underlying216
 a36:=Tryz.isAgg216
 z36:=Tryz.sizeOf216
 v36:=Tryz.zeroValue216
 t41:=Tryz.underlying128
 a41:=Tryz.isAgg128
 z41:=Tryz.sizeOf128
 v41:=Tryz.zeroValue128
 t44:=Tryz.underlying208
 a44:=Tryz.isAgg208
 z44:=Tryz.sizeOf208
 v44:=Tryz.zeroValue208
 t46:=Tryz.underlying124
 a46:=Tryz.isAgg124
 z46:=Tryz.sizeOf124
 v46:=Tryz.zeroValue124
 t53:=Tryz.underlying224
 a53:=Tryz.isAgg224
 z53:=Tryz.sizeOf224
 v53:=Tryz.zeroValue224
 t57:=Tryz.underlying228
 a57:=Tryz.isAgg228
 z57:=Tryz.sizeOf228
 v57:=Tryz.zeroValue228
 t63:=Tryz.underlying230
 a63:=Tryz.isAgg230
 z63:=Tryz.sizeOf230
 v63:=Tryz.zeroValue230
 t64:=Tryz.underlying92
 a64:=Tryz.isAgg92
 z64:=Tryz.sizeOf92
 v64:=Tryz.zeroValue92}
end Go.Proofs
