/- A part of the proof of DiskSaves. No condition of its own. -/
import Derived.Test.YtekajggjoeimoaaGreatDoorSk
import Derived.Test.YtekajggjoeimoaaGreatDoorSi
import Derived.Test.YtekajggjoeimoaaGreatDoorSj
import Derived.Test.YtekajggjoeimoaaGreatDoorSg
set_option linter.unusedVariables false
namespace Go.Proofs.YtekajggjoeimoaaGreatDoor
section
open Go.RowKit
section
variable {X X':Nat→Prop} {w w' w1 w2 w3:World} {rb:Nat} {vd vc vf vw:Value} {V:Nat→Value} {L:Nat→List (ByteArray × Value)} {W:List (PW × Value)} {nx:Int} {p:DP}
set_option maxHeartbeats 4000000 in
set_option maxRecDepth 100000 in
theorem RKeep_go (h:RefV X w rb vd vc vf vw V L W p) {i m:Nat} (hi:i<p.files.length) (hf:p.files.length≤1000) (hm:m<(p.file i).length) {sv:Value} {s:ByteArray} (hs:SecW w sv s) :
 Calls Tryz.prog 88 #[.pointer (some ⟨rb,0,none⟩),.agg #[.int .i64 i,.int .i64 m,sv]] w fun e w'=>e=.returned (.tuple #[]) ∧
  (∃ L',RefV X w' rb vd vc vf vw V L' W {p with files:=p.files.set i ((p.file i).set m s)})∧Fr X w w'∧w.heap.size≤w'.heap.size:=by
 obtain ⟨g,c,A',c',rfl,hV,hgl,hXg,hcell⟩:=h.file hi
 obtain ⟨gs,v0,rfl,hgsl,hXgs,hsec0,hcs⟩:=h.sector hi hm hV
 obtain ⟨go,co,hvs,_⟩:=hs.reads
 subst hvs
 have hA:∀ W0,Below w.heap.size w W0→Calls Tryz.prog 64 #[.pointer (some ⟨rb,0,none⟩),.int .i64 i] W0 fun e w'=>e=.returned (.int .i64 i)∧W0=w':=fun W0 hb=>RAt_go (h.below hb) hi (by omega)
 have i0:(0:Int)≤(i:Int):=by omega
 have i1:(i:Int)<(p.files.length:Int):=by omega
 have j0:(0:Int)≤(m:Int):=by omega
 have j1:(m:Int)<((p.file i).length:Int):=by omega
 have hB0:Below w.heap.size w (w.alloc (.cells #[.int .i64 i,.int .i64 m,.slice (some ⟨go,0,none⟩) 64 co] 165)):=(Below.refl _ w).alloc (Nat.le_refl _) _
 have k3:(w.alloc (.cells #[.int .i64 i,.int .i64 m,.slice (some ⟨go,0,none⟩) 64 co] 165)).cell? ⟨rb,3,none⟩=some (.slice (some ⟨g,0,none⟩) p.files.length c):=(h.below hB0).blk.cell 3
 have q1:=(hcell _ hB0).2
 have z0:=hcs _ hB0
 go_enter Tryz.func88,Tryz.ntmps88
 have bP:=Blk.new w 165 #[.int .i64 i,.int .i64 m,.slice (some ⟨go,0,none⟩) 64 co]
 have hRP:=h.below hB0
 obtain ⟨curs,hbs0⟩:=(hRP.row i hi).block (k:=gs) (by rw [hV];rfl)
 have hbs:Blk (w.alloc (.cells #[.int .i64 i,.int .i64 m,.slice (some ⟨go,0,none⟩) 64 co] 165)) gs 36 curs:=hbs0
 have y0:=hbs.frozen m
 obtain ⟨gv,cv,hv0,_⟩:=hsec0.reads
 subst hv0
 have hR9:=h.setS hi hm hV hs
 have HR9:=Lib.hid hR9
 clear hR9 hRP hbs0
 go_wp2_with fail
 refine regionE 15 (fun W0=>W0.cell? ⟨w.heap.size,0,none⟩=some (.int .i64 i)∧W0.cell? ⟨w.heap.size,1,none⟩=some (.int .i64 m)∧W0.cell? ⟨w.heap.size,2,none⟩=some (.slice (some ⟨go,0,none⟩) 64 co)∧W0.cell? ⟨rb,3,none⟩=some (.slice (some ⟨g,0,none⟩) p.files.length c)∧W0.cell? ⟨g,i*2+1,none⟩=some (.slice (some ⟨gs,0,none⟩) (p.file i).length c')) (by kernel_rfl) (by kernel_rfl) (by kernel_rfl) (by kernel_rfl) (by kernel_rfl) (⟨bP.cell 0,bP.cell 1,bP.cell 2,k3,q1⟩) (fun hHeld hTl=>?_)
 have HH:=Lib.hid hHeld
 refine tkT 0 (v:=?_) hTl hHeld rfl ?_ (fun hTl=>?_);rotate_left
 ·intro w hSw;(try dsimp only at hSw);go_simp;all_goals with_reducible rfl
 try simp only [pT]
 refine tkT 1 (v:=?_) hTl hHeld rfl ?_ (fun hTl=>?_);rotate_left
 ·intro w hSw;(try dsimp only at hSw);go_simp;all_goals with_reducible rfl
 try simp only [pT]
 refine tkT 2 (v:=?_) hTl hHeld rfl ?_ (fun hTl=>?_);rotate_left
 ·intro w hSw;(try dsimp only at hSw);go_simp;all_goals with_reducible rfl
 try simp only [pT]
 refine tkT 3 (v:=?_) hTl hHeld rfl ?_ (fun hTl=>?_);rotate_left
 ·intro w hSw;(try dsimp only at hSw);go_simp;all_goals with_reducible rfl
 try simp only [pT]
 refine tkT 4 (v:=?_) hTl hHeld rfl ?_ (fun hTl=>?_);rotate_left
 ·intro w hSw;(try dsimp only at hSw);go_simp;all_goals with_reducible rfl
 try simp only [pT]
 refine tkT 5 (v:=?_) hTl hHeld rfl ?_ (fun hTl=>?_);rotate_left
 ·intro w hSw;(try dsimp only at hSw);go_simp;all_goals with_reducible rfl
 try simp only [pT]
 refine tkT 6 (v:=?_) hTl hHeld rfl ?_ (fun hTl=>?_);rotate_left
 ·intro w hSw;(try dsimp only at hSw);go_simp;all_goals with_reducible rfl
 try simp only [pT]
 refine tkT 11 (v:=?_) hTl hHeld rfl ?_ (fun hTl=>?_);rotate_left
 ·intro w hSw;(try dsimp only at hSw);go_simp;all_goals with_reducible rfl
 try simp only [pT]
 refine tkT 12 (v:=?_) hTl hHeld rfl ?_ (fun hTl=>?_);rotate_left
 ·intro w hSw;(try dsimp only at hSw);go_simp;all_goals with_reducible rfl
 try simp only [pT]
 refine tkT 13 (v:=?_) hTl hHeld rfl ?_ (fun hTl=>?_);rotate_left
 ·intro w hSw;(try dsimp only at hSw);go_simp;all_goals with_reducible rfl
 try simp only [pT]
 refine tkT 14 (v:=?_) hTl hHeld rfl ?_ (fun hTl=>?_);rotate_left
 ·intro w hSw;(try dsimp only at hSw);go_simp;all_goals with_reducible rfl
 try simp only [pT]
 clear hTl
 clear hHeld
 refine oneE 7 rfl (by kernel_rfl) (fun K hK=>?_)
 go_simp
 ((go_at_call 64;refine (hA _ hB0.drew).mono ?_;rintro e w8 ⟨rfl,rfl⟩);try go_wp2_with fail)
 refine hK.out _ _ (fun _=>HH.out) ?_
 clear hK K
 try simp only [pT]
 refine oneE 8 rfl (by kernel_rfl) (fun K hK=>?_)
 go_simp
 refine hK.out _ _ (fun _=>HH.out) ?_
 clear hK K
 try simp only [pT]
 refine oneE 9 rfl (by kernel_rfl) (fun K hK=>?_)
 go_simp
 refine hK.out _ _ (fun _=>HH.out) ?_
 clear hK K
 try simp only [pT]
 refine oneE 10 rfl (by kernel_rfl) (fun K hK=>?_)
 go_simp
 refine hK.out _ _ (fun _=>HH.out) ?_
 clear hK K
 try simp only [pT]
 refine oneE 15 rfl (by kernel_rfl) (fun K hK=>?_)
 go_simp
 refine hK.out _ _ (fun h=>absurd h (by decide)) ?_
 clear hK K
 try simp only [pT]
 refine oneE 16 rfl (by kernel_rfl) (fun K hK=>?_)
 go_simp
 refine hK.out _ _ (fun h=>absurd h (by decide)) ?_
 clear hK K
 try simp only [pT]
 refine doneE (by kernel_rfl) ?_ _
 go_wp2
 go_end0
 exact ⟨rfl,⟨_,HR9.out.below ((Below.refl _ _).alloc (Nat.le_refl _) _).drew⟩,(((Fr.refl X w).setCell (p:=⟨gs,m,none⟩) (.inr hXgs) _).alloc _).drew,by show _≤((w.setCell _ _).alloc _).heap.size;simp [World.setCell]⟩
theorem RefV.off (h:RefV X w rb vd vc vf vw V L W p) (hX:∀ k,X k→w3.heap[k]?=w.heap[k]?) (hk:KB w w3):RefV X w3 rb vd vc vf vw V L W p :=
 h.keep (fun _ h=>h) (fun k cs t _ hx hk=>(hX k hx).trans hk) hk
def restW (i:Nat) (l:List (PW × Value)):List (PW × Value):=l.filter fun y=>decide (y.1.id≠i)
theorem restW_len (i:Nat) (l:List (PW × Value)):(restW i l).length≤l.length:=List.length_filter_le _ _
theorem restW_succ {i j:Nat} {l:List (PW × Value)} {y:PW × Value} (hy:l[j]?=some y):restW i (l.take (j+1))=restW i (l.take j)++if y.1.id=i then [] else [y]:=by
 unfold restW
 rw [List.take_add_one,hy,List.filter_append]
 congr 1
 by_cases e:y.1.id=i
 ·rw [if_pos e];simp [e]
 ·rw [if_neg e];simp [e]
def SyncR (X:Nat→Prop) (w w2:World) (rb:Nat) (vd vc vf vw:Value) (V:Nat→Value) (W:List (PW × Value)) (q:DP) (i:Nat) (rest k:Value) (wr:World):Prop :=
 ∃ j A c L,j≤W.length∧k=.int .i64 j∧rest=.slice A (restW i (W.take j)).length c∧RowX (fun k=>w2.heap.size≤k∧k<wr.heap.size) wr 165 3 rest (restW i (W.take j)).length (pwcells (restW i (W.take j))) ∧
  RefV X wr rb vd vc vf vw V L W {q with files:=q.files.set i ((q.wrs.take j).foldl (putW i) (q.file i))}∧Fr X w wr∧w2.heap.size≤wr.heap.size
set_option maxHeartbeats 8000000 in
set_option maxRecDepth 100000 in
theorem RSync_any (h:RA X w rb p) (nm:ByteArray) :
 Calls Tryz.prog 41 #[.pointer (some ⟨rb,0,none⟩),.string nm] w fun e w'=>e=.returned (.int .i64 (syncP p nm).1)∧RL X w rb (syncP p nm).2 w':=by
 obtain ⟨⟨vd,vc,vf,vw,V,L,W,hv⟩,hw,hlt,hnb,ha,hc,hww,hfl⟩:=h
 obtain ⟨w1,hF,hR,hN⟩:=RFails_any hv ha
 have hw1:=hw.fail
 obtain ⟨f1,f2,f3,f4,f5⟩:=failP_files p
 simp only [syncP]
 by_cases e1:(failP p).1≠0
 ·rw [if_pos e1]
  have d1:((failP p).1 != 0)=true:=by simpa using e1
  go_enter Tryz.func41,Tryz.ntmps41
  go_wp2_with (go_at_call 85;refine hF.mono ?_;rintro e w9 ⟨rfl,h9⟩;obtain rfl:w1=w9:=h9.symm)
  go_ret
  exact ⟨rfl,hv.step hN (Below.refl _ _) hR⟩
 ·rw [if_neg e1]
  have e0:(failP p).1=0:=by simpa using e1
  rw [e0] at hF
  have hI:=RId_any hR hw1 (by rw [f2];exact hc) nm
  obtain ⟨q,hq⟩:∃ q,(failP p).2=q:=⟨_,rfl⟩
  rw [hq] at hR hw1 hI f1 f2 f4 ⊢
  have hqc:q.chs.length≤1000:=by rw [f2];exact hc
  have hqf:q.files.length≤1000:=by rw [f1];exact hfl
  have hqw:q.wrs.length≤1000:=by rw [f4];exact hww
  clear f1 f2 f3 f4 f5 hq
  cases hfd:findP nm q.now with
  | none =>
   rw [hfd] at hI
   go_enter Tryz.func41,Tryz.ntmps41
   go_wp2_with (first
    | (go_at_call 85;refine hF.mono ?_;rintro e w9 ⟨rfl,h9⟩;obtain rfl:w1=w9:=h9.symm)
    | (go_at_call 63;refine hI.mono ?_;rintro e w2 ⟨rfl,hb2⟩))
   go_ret
   exact ⟨rfl,hv.step hN hb2 hR⟩
  | some i =>
   rw [hfd] at hI
   have hi:=(hw1.find hfd).2
   obtain ⟨Aw,cw,rfl⟩:=hR.wrs.form
   have hWl:W.length=q.wrs.length:=by rw [hR.wp];simp
   have hwn:=hw1.wrs
   have hlt1:∀ k,X k→k<w1.heap.size:=fun k hk=>by rw [hN.size];exact hlt k hk
   simp only
   have HW:=Lib.hid (And.intro hWl (And.intro hwn (And.intro hlt1 (And.intro hR (And.intro hN (And.intro hi (And.intro hv.inX hqw)))))))
   have hqw':=hqw
   have g1:=hN.fr' hv.inX
   have hst:∀ w2,Below w1.heap.size w1 w2→SyncR X w w2 rb vd vc vf (.slice Aw q.wrs.length cw) V W q i (.slice none 0 0) (.int .i64 0) w2:=fun w2 hb2=>by
    refine ⟨0,none,0,L,Nat.zero_le _,rfl,rfl,RowX.nil,?_,g1.trans (Fr.of_below hb2),Nat.le_refl _⟩
    have hq0:({q with files:=q.files.set i ((q.wrs.take 0).foldl (putW i) (q.file i))}:DP)=q:=by
     have:q.files.set i ((q.wrs.take 0).foldl (putW i) (q.file i))=q.files:=by
      rw [List.take_zero,List.foldl_nil]
      unfold DP.file
      rw [List.getD_eq_getElem?_getD,List.getElem?_eq_getElem hi]
      simp
     rw [this]
    rw [hq0]
    exact hR.below hb2
   have HST:=Lib.hid hst
   clear hst hWl hwn hlt1 g1
   go_enter Tryz.func41,Tryz.ntmps41
   go_wp2_with (first
    | (go_at_call 85;refine hF.mono ?_;rintro e w9 ⟨rfl,h9⟩;obtain rfl:w1=w9:=h9.symm)
    | (go_at_call 63;refine hI.mono ?_;rintro e w2 ⟨rfl,hb2⟩))
   have HB2:=Lib.hid hb2
   clear hb2
   go_loopw [8,9] (fun rest k wr=>SyncR X w w2 rb vd vc vf (.slice Aw q.wrs.length cw) V W q i rest k wr) (fun _ k _=>q.wrs.length-(intOf k).toNat)
   case atStart=>exact HST.out _ HB2.out
   case round =>
    obtain ⟨j,A,c,L',hj,rfl,rfl,hrest,hRj,hfr,hsz⟩:=hrel
    have k4:wr.cell? ⟨rb,4,none⟩=some (.slice Aw q.wrs.length cw):=hRj.blk.cell 4
    have hrl:=restW_len i (W.take j)
    rw [List.length_take] at hrl
    by_cases hlt2:j<q.wrs.length
    ·have d1:decide (j<q.wrs.length)=true:=by simpa using hlt2
     obtain ⟨g4,c4,y,hv4,hWy,hy,hsy,hg4,hX4,hc4⟩:=hRj.wr (j:=j) hlt2
     obtain ⟨rfl,_,rfl⟩:Aw=some ⟨g4,0,none⟩∧q.wrs.length=q.wrs.length∧cw=c4:=by simpa using hv4
     obtain ⟨y0,y1,y2⟩:=hc4 wr (Below.refl _ _)
     obtain ⟨gy,cy,hvy,_⟩:=hsy.reads
     rw [hvy] at y2
     have l0:(0:Int)≤(j:Int):=by omega
     have l1:(j:Int)<(q.wrs.length:Int):=by omega
     have hy':q.wrs[j]?=some y.1:=hy
     have hts:(q.wrs.take (j+1)).foldl (putW i) (q.file i)=putW i ((q.wrs.take j).foldl (putW i) (q.file i)) y.1:=cont_take_succ hy'
     have hrs:=restW_succ (i:=i) hWy
     have hwf:=HW.out.2.1 y.1 (List.mem_of_getElem? hy')
     have HTS:=Lib.hid (And.intro hts (And.intro hrs (And.intro hwf (And.intro hWy (And.intro hvy hj)))))
     clear hts hrs hwf hWy hvy hy hy' hj hc4
     obtain ⟨D,hD⟩:∃ D,restW i (W.take j)=D:=⟨_,rfl⟩
     rw [hD] at hrest hrl ⊢
     have HD:=Lib.hid hD
     clear hD
     by_cases e2:y.1.id=i
     ·subst e2
      have d2:((y.1.id:Int)==(y.1.id:Int))=true:=by simp
      have hij:y.1.id<({q with files:=q.files.set y.1.id ((q.wrs.take j).foldl (putW y.1.id) (q.file y.1.id))}:DP).files.length:=by show y.1.id<(q.files.set y.1.id _).length;rw [List.length_set];exact HW.out.2.2.2.2.2.1
      have hfj:({q with files:=q.files.set y.1.id ((q.wrs.take j).foldl (putW y.1.id) (q.file y.1.id))}:DP).file y.1.id=(q.wrs.take j).foldl (putW y.1.id) (q.file y.1.id):=(file_set q y.1.id _ y.1.id HW.out.2.2.2.2.2.1).trans (if_pos rfl)
      have hmj:y.1.n<(({q with files:=q.files.set y.1.id ((q.wrs.take j).foldl (putW y.1.id) (q.file y.1.id))}:DP).file y.1.id).length:=by
       rw [hfj,foldW_len];exact HTS.out.2.2.1.1
      have hK:=RKeep_go (sv:=.slice (some ⟨gy,0,none⟩) 64 cy) (s:=y.1.s) hRj hij (by show (q.files.set y.1.id _).length≤1000;rw [List.length_set];exact hqf) hmj (by rw [←HTS.out.2.2.2.2.1];exact hsy)
      have hpe:({q with files:=(q.files.set y.1.id ((q.wrs.take j).foldl (putW y.1.id) (q.file y.1.id))).set y.1.id ((({q with files:=q.files.set y.1.id ((q.wrs.take j).foldl (putW y.1.id) (q.file y.1.id))}:DP).file y.1.id).set y.1.n y.1.s)}:DP)={q with files:=q.files.set y.1.id ((q.wrs.take (j+1)).foldl (putW y.1.id) (q.file y.1.id))}:=by
       rw [hfj,List.set_set,HTS.out.1]
       unfold putW
       rw [if_pos rfl]
      have HPE:=Lib.hid hpe
      have HK:=Lib.hid hK
      have HRJ:=Lib.hid hRj
      clear hK hfj hmj hij hpe
      go_wp2_with (go_at_call 88;refine HK.out.mono ?_;rintro e w5 ⟨rfl,⟨L5,hR5⟩,hf5,hs5⟩)
      go_roundw
      case rel =>
       refine ⟨j+1,A,c,L5,?_,by go_num,?_,?_,?_,hfr.trans hf5,Nat.le_trans hsz hs5⟩
       ·rw [HW.out.1];omega
       ·have e9:restW y.1.id (W.take (j+1))=D:=by rw [HTS.out.2.1,HD.out];simp
        rw [e9]
       ·have e9:restW y.1.id (W.take (j+1))=D:=by rw [HTS.out.2.1,HD.out];simp
        rw [e9]
        refine hrest.keep (fun k cs hx hk h3=>hf5.heap h3 (fun hxk=>?_)) (fun k hk=>⟨hk.1,Nat.lt_of_lt_of_le hk.2 hs5⟩)
        have h1:=HW.out.2.2.1 k hxk
        have h2:=HB2.out.size
        have h4:=hx.1
        omega
       ·have h1:=hR5
        change RefV _ _ _ _ _ _ _ _ _ _ ({q with files:=(q.files.set y.1.id ((q.wrs.take j).foldl (putW y.1.id) (q.file y.1.id))).set y.1.id ((({q with files:=q.files.set y.1.id ((q.wrs.take j).foldl (putW y.1.id) (q.file y.1.id))}:DP).file y.1.id).set y.1.n y.1.s)}:DP) at h1
        rw [HPE.out] at h1
        exact h1
      case measure=>simp [intOf];omega
     ·have d2:((y.1.id:Int)==(i:Int))=false:=by simp;omega
      have HE:=Lib.hid e2
      clear e2
      have hrA:=hrest
      go_wp2_with (at_builtin;refine list_push TWr rfl rfl 0 rfl (hrest.1.alloc _) rfl (reads_blk (cs:=#[.int .i64 y.1.id,.int .i64 y.1.n,.slice (some ⟨gy,0,none⟩) 64 cy]) (blk_newH _ _ _ rfl) rfl) (wr_one (y.1,.slice (some ⟨gy,0,none⟩) 64 cy) rfl) (by omega) (Nat.zero_le _) rfl (ys:=pwcells (D++[(y.1,.slice (some ⟨gy,0,none⟩) 64 cy)])) (by rw [pw_append];rfl) ?_;intro A9 c9 w9 ho9 hg9 hl9)
      go_roundw
      case rel =>
       have ey:y=(y.1,.slice (some ⟨gy,0,none⟩) 64 cy):=Prod.ext rfl HTS.out.2.2.2.2.1
       have e9:restW i (W.take (j+1))=D++[(y.1,.slice (some ⟨gy,0,none⟩) 64 cy)]:=by rw [HTS.out.2.1,HD.out,if_neg HE.out,←ey]
       have n9:=hg9.size
       have n8:(wr.alloc (.cells #[.int .i64 y.1.id,.int .i64 y.1.n,.slice (some ⟨gy,0,none⟩) 64 cy] 165)).heap.size=wr.heap.size+1:=by simp
       have hrA:RowX (fun k=>w2.heap.size≤k∧k<wr.heap.size) (wr.alloc (.cells #[.int .i64 y.1.id,.int .i64 y.1.n,.slice (some ⟨gy,0,none⟩) 64 cy] 165)) 165 3 (.slice A D.length c) D.length (pwcells D) :=
        hrest.keep (fun k cs hx hk h3=>(Below.heap_alloc _ _ k (Array.getElem?_eq_some_iff.1 h3).1).trans h3) (fun _ h=>h)
       have hkb:KB wr w9:=(KB.of_below ((Below.refl _ wr).alloc (Nat.le_refl _) (.cells #[.int .i64 y.1.id,.int .i64 y.1.n,.slice (some ⟨gy,0,none⟩) 64 cy] 165))).trans (kb_grown hrA hg9 (by decide))
       have hoff:∀ k,X k→w9.heap[k]?=wr.heap[k]?:=fun k hk=>by
        have h1:=HW.out.2.2.1 k hk
        have h2:=HB2.out.size
        exact (hg9.block k (by omega) (fun e=>by have:=(hrest.2 k e.symm).1;omega)).trans (Below.heap_alloc _ _ k (by omega))
       have hp:=HTS.out.1
       have hput:putW i ((q.wrs.take j).foldl (putW i) (q.file i)) y.1=(q.wrs.take j).foldl (putW i) (q.file i):=if_neg HE.out
       rw [hput] at hp
       refine ⟨j+1,A9,c9,L',?_,by go_num,?_,?_,?_,((hfr.alloc (.cells #[.int .i64 y.1.id,.int .i64 y.1.n,.slice (some ⟨gy,0,none⟩) 64 cy] 165)).grown hg9 (fun k hk=>.inl ?_)),by omega⟩
       ·rw [HW.out.1];omega
       ·rw [e9,List.length_append];rfl
       ·rw [e9,List.length_append]
        refine ⟨ho9,fun k hk=>⟨?_,(ho9.lt k hk).2⟩⟩
        rcases hl9 with e | e
        ·rw [e] at hk;exact (hrest.2 k hk).1
        ·rw [e] at hk;cases hk;omega
       ·rw [hp]
        exact hRj.off hoff hkb
       ·have h1:=(hrest.2 k hk).1
        have h2:=HB2.out.size
        have h3:=HW.out.2.2.2.2.1.size
        omega
      case measure=>simp [intOf];omega
    ·obtain rfl:j=q.wrs.length:=by have:=HW.out.1;omega
     have d1:decide (q.wrs.length<q.wrs.length)=false:=by simp
     have ht1:W.take q.wrs.length=W:=by rw [←HW.out.1];exact List.take_length
     rw [ht1] at hrest hrl ⊢
     rw [List.take_length] at hRj
     have y4:=hRj.blk.frozen 4
     have hcl:=hRj.cell (X':=More X w) (fun k hk=>.inl hk) (o:=4) (u:=.slice A (restW i W).length c) (vd':=vd) (vc':=vc) (vf':=vf) (vw':=.slice A (restW i W).length c) (W':=restW i W)
      (p':={q with files:=q.files.set i (q.cont i),wrs:=q.wrs.filter fun x=>decide (x.id≠i)}) (by simp) rfl (hRj.dir.keep (fun _ _ _ _ h=>h) (fun _ h=>.inl h)) (hRj.chs.keep (fun _ _ _ _ h=>h) (fun _ h=>.inl h)) (hRj.fl.keep (fun _ _ _ _ h=>h) (fun _ h=>.inl h))
      (by
       have e5:(q.wrs.filter fun x=>decide (x.id≠i)).length=(restW i W).length:=by
        have h1:q.wrs=W.map (·.1):=hRj.wp
        rw [h1,List.filter_map,List.length_map];rfl
       rw [e5]
       exact hrest.keep (fun _ _ _ _ h=>h) (fun k hk=>.inr (by have h1:=hk.1;have h2:=HB2.out.size;have h3:=HW.out.2.2.2.2.1.size;omega)))
      (by
       have h1:q.wrs=W.map (·.1):=hRj.wp
       show (q.wrs.filter fun x=>decide (x.id≠i))=_
       rw [h1,List.filter_map];rfl)
      (fun y hy=>hRj.ws y (List.mem_filter.1 hy).1)
     have HCL:=Lib.hid hcl
     clear hcl ht1
     go_wp2
     go_ret
     exact ⟨rfl,⟨_,_,_,_,_,_,_,HCL.out⟩,hfr.setCell (p:=⟨rb,4,none⟩) (.inr hv.inX) _⟩
end
end
end Go.Proofs.YtekajggjoeimoaaGreatDoor
namespace Go.Proofs.YtekajggjoeimoaaGreatDoor
open Go.RowKit
section
variable {X X':Nat→Prop} {w w' w1 w2 w3:World} {rb:Nat} {vd vc vf vw:Value} {V:Nat→Value} {L:Nat→List (ByteArray × Value)} {W:List (PW × Value)} {nx:Int} {p:DP}
def CrR1 (X:Nat→Prop) (w:World) (rb:Nat) (vc vf vw:Value) (V:Nat→Value) (L:Nat→List (ByteArray × Value)) (W:List (PW × Value)) (p:DP) (changes:Int) (k:Value) (wr:World):Prop :=
 ∃ j A c,j≤p.chs.length∧j≤changes.toNat∧k=.int .i64 j∧RefV (More X w) wr rb (.slice A ((p.chs.take j).foldl turnP p.dir).length c) vc vf vw V L W {p with dir:=(p.chs.take j).foldl turnP p.dir}∧Fr X w wr
theorem crashW_snoc (keep:List Int):∀ (l:List PW) (i:Nat) (x:PW) (fs:List (List ByteArray)),crashW keep i (l++[x]) fs=if ((i+l.length:Nat):Int)∈keep then keepW (crashW keep i l fs) x else crashW keep i l fs
 | [],i,x,fs=>rfl
 | y::l,i,x,fs=>by
  show crashW keep (i+1) (l++[x]) _=_
  rw [crashW_snoc keep l (i+1) x,List.length_cons,show i+1+l.length=i+(l.length+1) by omega]
  rfl
theorem keepW_set {fs:List (List ByteArray)} {x:PW} (h:x.id<fs.length):keepW fs x=fs.set x.id ((fs.getD x.id []).set x.n x.s):=by
 unfold keepW
 apply List.ext_getElem?
 intro i
 rw [List.getElem?_modify,List.getElem?_set]
 by_cases e:x.id=i
 ·subst e
  rw [if_pos rfl,if_pos h,List.getD_eq_getElem?_getD,List.getElem?_eq_getElem h]
  simp
 ·rw [if_neg e]
  cases fs[i]? <;> simp [e]
def anyK (ks:List Int) (j k:Nat):Bool:=(ks.take k).any fun x=>x==(j:Int)
theorem anyK_succ {ks:List Int} {j k:Nat} {x:Int} (hx:ks[k]?=some x):anyK ks j (k+1)=(anyK ks j k || x==(j:Int)):=by
 unfold anyK
 rw [List.take_add_one,hx,List.any_append];simp
theorem anyK_all (ks:List Int) (j:Nat):anyK ks j ks.length=decide ((j:Int)∈ks):=by
 unfold anyK
 rw [List.take_length,Bool.eq_iff_iff,List.any_eq_true,decide_eq_true_eq]
 constructor
 ·rintro ⟨x,hx,e⟩
  rw [←(beq_iff_eq.1 e)];exact hx
 ·exact fun h=>⟨_,h,by simp⟩
def CrR2 (X:Nat→Prop) (w:World) (rb:Nat) (vd vf vw:Value) (V:Nat→Value) (W:List (PW × Value)) (p:DP) (ks:List Int) (k:Value) (wr:World):Prop :=
 ∃ j L,j≤p.wrs.length∧k=.int .i64 j∧RefV (More X w) wr rb vd (.slice none 0 0) vf vw V L W {p with files:=crashW ks 0 (p.wrs.take j) p.files}∧Fr X w wr
set_option maxHeartbeats 8000000 in
set_option maxRecDepth 100000 in
theorem RCrash_any (h:RA X w rb p) (changes:Int) {Ak:Option Addr} {ck:Nat} {ks:List Int} (hk:∀ W0,Fr X w W0→Reads W0 W0.heap.size 1 Ak ks.length (ks.map (.int .i64))) (hks:ks.length≤1000000) :
 Calls Tryz.prog 44 #[.pointer (some ⟨rb,0,none⟩),.int .i64 changes,.slice Ak ks.length ck] w fun e w'=>e=.returned (.tuple #[])∧RL X w rb (crashP p changes ks) w':=by
 obtain ⟨⟨vd,vc,vf,vw,V,L,W,hv⟩,hw,hlt,hnb,ha,hc,hww,hfl⟩:=h
 obtain ⟨Ad,cd,rfl⟩:=hv.dir.form
 obtain ⟨Ac,cc,rfl⟩:=hv.chs.form
 have hst:CrR1 X w rb (.slice Ac p.chs.length cc) vf vw V L W p changes (.int .i64 0) w:=⟨0,Ad,cd,Nat.zero_le _,Nat.zero_le _,rfl,hv.keep (fun _ h=>.inl h) Same.refl (KB.refl _),Fr.refl _ _⟩
 have HST:=Lib.hid hst
 have HK:=Lib.hid hk
 clear hst hk
 go_enter Tryz.func44,Tryz.ntmps44
 go_wp2
 go_loopw [6] (fun k wr=>CrR1 X w rb (.slice Ac p.chs.length cc) vf vw V L W p changes k wr) (fun k _=>p.chs.length-(intOf k).toNat)
 case atStart=>exact HST.out
 case round =>
  obtain ⟨j,A,c,hj,hjc,rfl,hRj,hfr⟩:=hrel
  have k1:=hRj.blk.cell 1
  have k2:wr.cell? ⟨rb,2,none⟩=some (.slice Ac p.chs.length cc):=hRj.blk.cell 2
  have y1:=hRj.blk.frozen 1
  have hD8:=(hw.dir.fold (okChs_take j hw.chs)).len
  by_cases hlt2:j<p.chs.length
  ·have d1:decide (j<p.chs.length)=true:=by simpa using hlt2
   by_cases hlt3:(j:Int)<changes
   ·have d2:decide ((j:Int)<changes)=true:=by simpa using hlt3
    obtain ⟨x,hx⟩:∃ x,p.chs[j]?=some x:=⟨_,List.getElem?_eq_getElem hlt2⟩
    obtain ⟨g,c',cur,hv2,hXg,hg,hsz,hcur⟩:=hRj.chs.row (by show 0<p.chs.length;omega)
    obtain ⟨rfl,_,rfl⟩:Ac=some ⟨g,0,none⟩∧p.chs.length=p.chs.length∧cc=c':=by simpa using hv2
    have hcell:∀ i u,x.cells[i]?=some u→i<4→wr.cell? ⟨g,j*4+i,none⟩=some u:=fun i u hu hi=>(hg.cell _).trans (hcur _ _ ((ch_at hx i hi).trans hu))
    have q0:wr.cell? ⟨g,j*4,none⟩=some (.int .i64 x.k):=hcell 0 _ (by rw [Ch.cells_eq];rfl) (by omega)
    have q1:wr.cell? ⟨g,j*4+1,none⟩=some (.string x.a):=hcell 1 _ (by rw [Ch.cells_eq];rfl) (by omega)
    have q2:wr.cell? ⟨g,j*4+2,none⟩=some (.string x.b):=hcell 2 _ (by rw [Ch.cells_eq];rfl) (by omega)
    have q3:wr.cell? ⟨g,j*4+3,none⟩=some (.int .i64 x.i):=hcell 3 _ (by rw [Ch.cells_eq];rfl) (by omega)
    have hts:(p.chs.take (j+1)).foldl turnP p.dir=turnP ((p.chs.take j).foldl turnP p.dir) x:=by rw [List.take_add_one,hx,List.foldl_append];rfl
    have HTS:=Lib.hid hts
    clear hts hcell hcur hx
    obtain ⟨D,hD⟩:∃ D,(p.chs.take j).foldl turnP p.dir=D:=⟨_,rfl⟩
    rw [hD] at hRj hD8 k1
    have HD:=Lib.hid hD
    clear hD
    have l0:(0:Int)≤(j:Int):=by omega
    have l1:(j:Int)<(p.chs.length:Int):=by omega
    have hC:=RChange_any (w:=wr.drew) (X:=More X w) (hRj.dir.keep (fun _ _ _ _ h=>h) (fun _ h=>h)) (by show D.length≤1000;omega) x
    go_wp2_with fail
    refine regionE 13 (fun W0=>W0.cell? ⟨rb,1,none⟩=some (.slice A D.length c)∧W0.cell? ⟨rb,2,none⟩=some (.slice (some ⟨g,0,none⟩) p.chs.length cc)∧W0.cell? ⟨g,j*4,none⟩=some (.int .i64 x.k)∧W0.cell? ⟨g,j*4+1,none⟩=some (.string x.a)∧W0.cell? ⟨g,j*4+2,none⟩=some (.string x.b)∧W0.cell? ⟨g,j*4+3,none⟩=some (.int .i64 x.i)) (by kernel_rfl) (by kernel_rfl) (by kernel_rfl) (by kernel_rfl) (by kernel_rfl) (⟨k1,k2,q0,q1,q2,q3⟩) (fun hHeld hTl=>?_)
    refine tkT 0 (v:=?_) hTl hHeld rfl ?_ (fun hTl=>?_);rotate_left
    ·intro w hSw;(try dsimp only at hSw);go_simp;all_goals with_reducible rfl
    try simp only [pT]
    refine tkT 1 (v:=?_) hTl hHeld rfl ?_ (fun hTl=>?_);rotate_left
    ·intro w hSw;(try dsimp only at hSw);go_simp;all_goals with_reducible rfl
    try simp only [pT]
    refine tkT 2 (v:=?_) hTl hHeld rfl ?_ (fun hTl=>?_);rotate_left
    ·intro w hSw;(try dsimp only at hSw);go_simp;all_goals with_reducible rfl
    try simp only [pT]
    refine tkT 3 (v:=?_) hTl hHeld rfl ?_ (fun hTl=>?_);rotate_left
    ·intro w hSw;(try dsimp only at hSw);go_simp;all_goals with_reducible rfl
    try simp only [pT]
    refine tkT 4 (v:=?_) hTl hHeld rfl ?_ (fun hTl=>?_);rotate_left
    ·intro w hSw;(try dsimp only at hSw);go_simp;all_goals with_reducible rfl
    try simp only [pT]
    refine tkT 5 (v:=?_) hTl hHeld rfl ?_ (fun hTl=>?_);rotate_left
    ·intro w hSw;(try dsimp only at hSw);go_simp;all_goals with_reducible rfl
    try simp only [pT]
    refine tkT 6 (v:=?_) hTl hHeld rfl ?_ (fun hTl=>?_);rotate_left
    ·intro w hSw;(try dsimp only at hSw);go_simp;all_goals with_reducible rfl
    try simp only [pT]
    refine tkT 7 (v:=?_) hTl hHeld rfl ?_ (fun hTl=>?_);rotate_left
    ·intro w hSw;(try dsimp only at hSw);go_simp;all_goals with_reducible rfl
    try simp only [pT]
    refine tkT 8 (v:=?_) hTl hHeld rfl ?_ (fun hTl=>?_);rotate_left
    ·intro w hSw;(try dsimp only at hSw);go_simp;all_goals with_reducible rfl
    try simp only [pT]
    refine tkT 9 (v:=?_) hTl hHeld rfl ?_ (fun hTl=>?_);rotate_left
    ·intro w hSw;(try dsimp only at hSw);go_simp;all_goals with_reducible rfl
    try simp only [pT]
    refine tkT 10 (v:=?_) hTl hHeld rfl ?_ (fun hTl=>?_);rotate_left
    ·intro w hSw;(try dsimp only at hSw);go_simp;all_goals with_reducible rfl
    try simp only [pT]
    refine tkT 11 (v:=?_) hTl hHeld rfl ?_ (fun hTl=>?_);rotate_left
    ·intro w hSw;(try dsimp only at hSw);go_simp;all_goals with_reducible rfl
    try simp only [pT]
    clear hTl
    refine oneE 12 rfl (by kernel_rfl) (fun K hK=>?_)
    go_simp
    ((go_at_call 89;refine hC.mono ?_;rintro e w9 ⟨v,rfl,hr9,hb9⟩;obtain ⟨A9,c9,rfl⟩:=hr9.form;have z9:=(hb9.cell (p:=⟨rb,1,none⟩) hRj.blk.lt).trans k1;have y9:=(hb9.frozen (p:=⟨rb,1,none⟩) hRj.blk.lt).trans y1);try go_wp2_with fail)
    refine hK.out _ _ (fun _=>⟨(hb9.cell (p:=⟨rb,1,none⟩) hRj.blk.lt).trans k1,(hb9.cell (p:=⟨rb,2,none⟩) hRj.blk.lt).trans k2,(hb9.cell (p:=⟨g,j*4,none⟩) hg.lt).trans q0,(hb9.cell (p:=⟨g,j*4+1,none⟩) hg.lt).trans q1,(hb9.cell (p:=⟨g,j*4+2,none⟩) hg.lt).trans q2,(hb9.cell (p:=⟨g,j*4+3,none⟩) hg.lt).trans q3⟩) ?_
    clear hK K
    try simp only [pT]
    refine oneE 13 rfl (by kernel_rfl) (fun K hK=>?_)
    go_simp
    refine hK.out _ _ (fun h=>absurd h (by decide)) ?_
    clear hK K
    try simp only [pT]
    refine oneE 14 rfl (by kernel_rfl) (fun K hK=>?_)
    go_simp
    refine hK.out _ _ (fun h=>absurd h (by decide)) ?_
    clear hK K
    try simp only [pT]
    refine oneE 15 rfl (by kernel_rfl) (fun K hK=>?_)
    go_simp
    refine hK.out _ _ (fun h=>absurd h (by decide)) ?_
    clear hK K
    try simp only [pT]
    refine doneE (by kernel_rfl) ?_ _
    go_wp2
    go_roundw
    case rel =>
     have hb9':Below wr.heap.size wr w9:=⟨hb9.os,hb9.tape,hb9.output,hb9.size,hb9.block⟩
     have hR9:=hRj.below hb9'
     have hszw:=hfr.size
     have hmm:∀ k,More (More X w) wr.drew k→More X w k:=fun k hk=>hk.elim id (fun h=>.inr (Nat.le_trans hszw h))
     have hR10:=hR9.cell (X':=More X w) (fun _ h=>h) (o:=1) (u:=.slice A9 (turnP D x).length c9) (vd':=.slice A9 (turnP D x).length c9) (W':=W) (p':={p with dir:=turnP D x}) (by simp) rfl (hr9.keep (fun _ _ _ _ h=>h) hmm) hR9.chs hR9.fl hR9.wrs hR9.wp hR9.ws
     refine ⟨j+1,A9,c9,by omega,by omega,by go_num,?_,?_⟩
     ·rw [HTS.out,HD.out];exact hR10
     ·exact (hfr.trans (Fr.of_below hb9')).setCell (p:=⟨rb,1,none⟩) (.inr hv.inX) _
    case measure=>simp [intOf];omega
   ·have d2:decide ((j:Int)<changes)=false:=by simpa using hlt3
    have hfin:j=min changes.toNat p.chs.length:=by omega
    have HFIN:=Lib.hid hfin
    clear hfin
    obtain ⟨Aw,cw,rfl⟩:=hRj.wrs.form
    have y2:=hRj.blk.frozen 2
    have hR2:=hRj.cell (X':=More X w) (fun _ h=>h) (o:=2) (u:=.slice none 0 0) (vc':=.slice none 0 0) (W':=W) (p':={p with dir:=(p.chs.take j).foldl turnP p.dir,chs:=[]}) (by simp) rfl hRj.dir RowX.nil hRj.fl hRj.wrs hRj.wp hRj.ws
    have hfr2:Fr X w (wr.setCell ⟨rb,2,none⟩ (.slice none 0 0)):=hfr.setCell (p:=⟨rb,2,none⟩) (.inr hv.inX) _
    obtain ⟨D,hD⟩:∃ D,(p.chs.take j).foldl turnP p.dir=D:=⟨_,rfl⟩
    rw [hD] at hR2
    have HD:=Lib.hid hD
    clear hD hRj k1 hD8
    have hst2:CrR2 X w rb (.slice A D.length c) vf (.slice Aw p.wrs.length cw) V W {p with dir:=D,chs:=[]} ks (.int .i64 0) (wr.setCell ⟨rb,2,none⟩ (.slice none 0 0)):=⟨0,L,Nat.zero_le _,rfl,hR2,hfr2⟩
    have HST2:=Lib.hid hst2
    clear hst2 hR2 hfr2 hfr
    go_wp2
    go_loopw [7] (fun k wr=>CrR2 X w rb (.slice A D.length c) vf (.slice Aw p.wrs.length cw) V W {p with dir:=D,chs:=[]} ks k wr) (fun k _=>p.wrs.length-(intOf k).toNat)
    case atStart=>exact HST2.out
    case round =>
     clear k2 y1 y2
     rename_i wr1 _ _
     obtain ⟨i,L2,hi,rfl,hR3,hfr3⟩:=hrel
     have hi':i≤p.wrs.length:=hi
     clear hi
     have k4:wr.cell? ⟨rb,4,none⟩=some (.slice Aw p.wrs.length cw):=hR3.blk.cell 4
     by_cases hlt4:i<p.wrs.length
     ·have d4:decide (i<p.wrs.length)=true:=by simpa using hlt4
      obtain ⟨g4,c4,y,hv4,hWy,hy,hsy,hg4,hX4,hc4⟩:=hR3.wr (j:=i) hlt4
      obtain ⟨rfl,_,rfl⟩:Aw=some ⟨g4,0,none⟩∧p.wrs.length=p.wrs.length∧cw=c4:=by simpa using hv4
      have hy':p.wrs[i]?=some y.1:=hy
      obtain ⟨gy,cy,hvy,_⟩:=hsy.reads
      have hylt:y.1.id<p.files.length:=hw.ids _ (live_wrs (List.mem_of_getElem? hy'))
      have hyn:=(hw.wrs y.1 (List.mem_of_getElem? hy')).1
      have hsn:crashW ks 0 (p.wrs.take (i+1)) p.files=if (i:Int)∈ks then keepW (crashW ks 0 (p.wrs.take i) p.files) y.1 else crashW ks 0 (p.wrs.take i) p.files:=by
       rw [List.take_add_one,hy',Option.toList_some,crashW_snoc,List.length_take,Nat.zero_add,Nat.min_eq_left (by omega)]
      have HY:=Lib.hid (And.intro hsn (And.intro hvy (And.intro hsy (And.intro hylt (And.intro hyn hc4)))))
      clear hWy hy hy' hsn hvy hsy hylt hyn hc4
      have HR3:=Lib.hid hR3
      have hrb:=hR3.blk.lt
      clear hR3
      go_wp2
      go_loopw [8,9] (fun is k wr3=>Below wr.heap.size wr wr3∧∃ m,m≤ks.length∧k=.int .i64 m∧is=.bool (anyK ks i m)) (fun _ k _=>ks.length-(intOf k).toNat)
      case atStart=>exact ⟨Below.refl _ _,0,Nat.zero_le _,rfl,rfl⟩
      case round =>
       rename_i wr2 _ _
       obtain ⟨hb3,m,hm,rfl,rfl⟩:=hrel
       by_cases hlt5:m<ks.length
       ·have d5:decide (m<ks.length)=true:=by simpa using hlt5
        obtain ⟨x,hx⟩:∃ x,ks[m]?=some x:=⟨_,List.getElem?_eq_getElem hlt5⟩
        obtain ⟨ad,hAd,had,hcad⟩:=(HK.out wr (hfr3.trans (Fr.of_below hb3))).2 (by omega)
        have hcm:=hcad m (.int .i64 x) (by rw [List.getElem?_map,hx];rfl)
        subst hAd
        have m0:(0:Int)≤(m:Int):=by omega
        have m1:(m:Int)<(ks.length:Int):=by omega
        have hsu:=anyK_succ (j:=i) hx
        have HSU:=Lib.hid hsu
        clear hsu hcad hx
        cases hb:anyK ks i m with
        | true =>
         rw [hb] at HSU
         go_wp2
         try (go_quiet (fail))
         try go_wp2
         go_roundw
         case rel=>exact ⟨by first | exact below_drewN hb3 _ | exact hb3,m+1,by omega,by go_num,by rw [HSU.out];rfl⟩
         case measure=>simp [intOf];omega
        | false =>
         rw [hb] at HSU
         by_cases hxi:x=(i:Int)
         ·subst hxi
          have d6:((i:Int)==(i:Int))=true:=by simp
          go_wp2
          try (go_quiet (fail))
          try go_wp2
          go_roundw
          case rel=>exact ⟨by first | exact below_drewN hb3 _ | exact hb3,m+1,by omega,by go_num,by rw [HSU.out];simp⟩
          case measure=>simp [intOf];omega
         ·have d6:(x==(i:Int))=false:=by simpa using hxi
          have HXI:=Lib.hid d6
          go_wp2
          try (go_quiet (fail))
          try go_wp2
          go_roundw
          case rel=>exact ⟨by first | exact below_drewN hb3 _ | exact hb3,m+1,by omega,by go_num,by rw [HSU.out,HXI.out];rfl⟩
          case measure=>simp [intOf];omega
       ·obtain rfl:m=ks.length:=by omega
        have d5:decide (ks.length<ks.length)=false:=by simp
        rw [anyK_all]
        have hR4:=HR3.out.below hb3
        have k4':wr.cell? ⟨rb,4,none⟩=some (.slice (some ⟨g4,0,none⟩) p.wrs.length cw):=hR4.blk.cell 4
        obtain ⟨hsn,hvy,hsy,hylt,hyn,hc4⟩:=HY.out
        obtain ⟨y0,y1,y2⟩:=hc4 wr hb3
        rw [hvy] at y2
        have l0:(0:Int)≤(i:Int):=by omega
        have l1:(i:Int)<(p.wrs.length:Int):=by omega
        have hfr4:=hfr3.trans (Fr.of_below hb3)
        have hcl:y.1.id<({p with dir:=D,chs:=[],files:=crashW ks 0 (p.wrs.take i) p.files}:DP).files.length:=by show _<(crashW ks 0 _ p.files).length;rw [crashW_len];exact hylt
        have hcn:y.1.n<(({p with dir:=D,chs:=[],files:=crashW ks 0 (p.wrs.take i) p.files}:DP).file y.1.id).length:=by show _<((crashW ks 0 _ p.files).getD y.1.id []).length;rw [crashW_at];exact hyn
        by_cases hmem:(i:Int)∈ks
        ·have hd:decide ((i:Int)∈ks)=true:=decide_eq_true hmem
         rw [hd]
         have hKP:=RKeep_go (sv:=.slice (some ⟨gy,0,none⟩) 64 cy) (s:=y.1.s) hR4 hcl (by show (crashW ks 0 _ p.files).length≤1000;rw [crashW_len];exact hfl) hcn (by rw [←hvy];exact hsy.keep (KB.of_below hb3))
         have hpe:crashW ks 0 (p.wrs.take (i+1)) p.files=(crashW ks 0 (p.wrs.take i) p.files).set y.1.id (((crashW ks 0 (p.wrs.take i) p.files).getD y.1.id []).set y.1.n y.1.s):=by
          rw [hsn,if_pos hmem,keepW_set (by rw [crashW_len];exact hylt)]
         have HPE:=Lib.hid hpe
         have HKP:=Lib.hid hKP
         clear hKP hpe hsn hvy hsy hylt hyn hc4 hcl hcn hmem hd hR4
         go_wp2_with (go_at_call 88;refine HKP.out.mono ?_;rintro e w5 ⟨rfl,⟨L5,hR5⟩,hf5,hs5⟩)
         go_roundw
         case rel =>
          refine ⟨i+1,L5,by show i+1≤p.wrs.length;omega,by go_num,?_,?_⟩
          ·show RefV (More X w) _ rb _ _ _ _ V L5 W {p with dir:=D,chs:=[],files:=crashW ks 0 (p.wrs.take (i+1)) p.files}
           rw [HPE.out]
           exact hR5
          ·exact fr_more hfr4 hf5 (fun k hk=>hk)
         case measure=>simp [intOf];omega
        ·have hd:decide ((i:Int)∈ks)=false:=decide_eq_false hmem
         rw [hd]
         have hpe:crashW ks 0 (p.wrs.take (i+1)) p.files=crashW ks 0 (p.wrs.take i) p.files:=by rw [hsn,if_neg hmem]
         have HPE:=Lib.hid hpe
         clear hpe hsn hvy hsy hylt hyn hc4 hcl hcn hmem hd
         go_wp2
         go_roundw
         case rel =>
          refine ⟨i+1,L2,by show i+1≤p.wrs.length;omega,by go_num,?_,hfr4⟩
          show RefV (More X w) _ rb _ _ _ _ V L2 W {p with dir:=D,chs:=[],files:=crashW ks 0 (p.wrs.take (i+1)) p.files}
          rw [HPE.out]
          exact hR4
         case measure=>simp [intOf];omega
     ·obtain rfl:i=p.wrs.length:=by omega
      have d4:decide (p.wrs.length<p.wrs.length)=false:=by simp
      have hR3':RefV (More X w) wr rb (.slice A D.length c) (.slice none 0 0) vf (.slice Aw p.wrs.length cw) V L2 W {p with dir:=D,chs:=[],files:=crashW ks 0 p.wrs p.files}:=by
       have h1:=hR3
       change RefV _ _ _ _ _ _ _ _ _ _ {p with dir:=D,chs:=[],files:=crashW ks 0 (p.wrs.take p.wrs.length) p.files} at h1
       rw [List.take_length] at h1
       exact h1
      have y4:=hR3'.blk.frozen 4
      have hR5:=hR3'.cell (X':=More X w) (fun _ h=>h) (o:=4) (u:=.slice none 0 0) (vw':=.slice none 0 0) (W':=[]) (p':={p with dir:=D,chs:=[],files:=crashW ks 0 p.wrs p.files,wrs:=[]}) (by simp) rfl hR3'.dir hR3'.chs hR3'.fl RowX.nil rfl (fun y hy=>by cases hy)
      have y6:=hR5.blk.frozen 6
      have z6:=hR5.blk.cell 6
      have hR6:=hR5.cell (X':=More X w) (fun _ h=>h) (o:=6) (u:=.bool false) (W':=[]) (p':={p with dir:=D,chs:=[],files:=crashW ks 0 p.wrs p.files,wrs:=[],armed:=false}) (by simp) rfl hR5.dir hR5.chs hR5.fl hR5.wrs hR5.wp hR5.ws
      have hcp:crashP p changes ks={p with dir:=D,chs:=[],files:=crashW ks 0 p.wrs p.files,wrs:=[],armed:=false}:=by
       unfold crashP
       have:(p.chs.take changes.toNat).foldl turnP p.dir=D:=by
        rw [←HD.out,HFIN.out]
        congr 1
        by_cases hh:changes.toNat≤p.chs.length
        ·rw [Nat.min_eq_left hh]
        ·rw [Nat.min_eq_right (by omega),List.take_of_length_le (Nat.le_refl _),List.take_of_length_le (by omega)]
       rw [this]
      rw [←hcp] at hR6
      have HR6:=Lib.hid hR6
      clear hcp hR6 hR5 hR3 hR3'
      go_wp2
      go_end0
      exact ⟨rfl,⟨_,_,_,_,_,_,_,HR6.out⟩,(hfr3.setCell (p:=⟨rb,4,none⟩) (.inr hv.inX) _).setCell (p:=⟨rb,6,none⟩) (.inr hv.inX) _⟩
  ·have d1:decide (j<p.chs.length)=false:=by simpa using hlt2
   have hfin:j=min changes.toNat p.chs.length:=by omega
   have HFIN:=Lib.hid hfin
   clear hfin
   obtain ⟨Aw,cw,rfl⟩:=hRj.wrs.form
   have y2:=hRj.blk.frozen 2
   have hR2:=hRj.cell (X':=More X w) (fun _ h=>h) (o:=2) (u:=.slice none 0 0) (vc':=.slice none 0 0) (W':=W) (p':={p with dir:=(p.chs.take j).foldl turnP p.dir,chs:=[]}) (by simp) rfl hRj.dir RowX.nil hRj.fl hRj.wrs hRj.wp hRj.ws
   have hfr2:Fr X w (wr.setCell ⟨rb,2,none⟩ (.slice none 0 0)):=hfr.setCell (p:=⟨rb,2,none⟩) (.inr hv.inX) _
   obtain ⟨D,hD⟩:∃ D,(p.chs.take j).foldl turnP p.dir=D:=⟨_,rfl⟩
   rw [hD] at hR2
   have HD:=Lib.hid hD
   clear hD hRj k1 hD8
   have hst2:CrR2 X w rb (.slice A D.length c) vf (.slice Aw p.wrs.length cw) V W {p with dir:=D,chs:=[]} ks (.int .i64 0) (wr.setCell ⟨rb,2,none⟩ (.slice none 0 0)):=⟨0,L,Nat.zero_le _,rfl,hR2,hfr2⟩
   have HST2:=Lib.hid hst2
   clear hst2 hR2 hfr2 hfr
   go_wp2
   go_loopw [7] (fun k wr=>CrR2 X w rb (.slice A D.length c) vf (.slice Aw p.wrs.length cw) V W {p with dir:=D,chs:=[]} ks k wr) (fun k _=>p.wrs.length-(intOf k).toNat)
   case atStart=>exact HST2.out
   case round =>
    clear k2 y1 y2
    rename_i wr1 _ _
    obtain ⟨i,L2,hi,rfl,hR3,hfr3⟩:=hrel
    have hi':i≤p.wrs.length:=hi
    clear hi
    have k4:wr.cell? ⟨rb,4,none⟩=some (.slice Aw p.wrs.length cw):=hR3.blk.cell 4
    by_cases hlt4:i<p.wrs.length
    ·have d4:decide (i<p.wrs.length)=true:=by simpa using hlt4
     obtain ⟨g4,c4,y,hv4,hWy,hy,hsy,hg4,hX4,hc4⟩:=hR3.wr (j:=i) hlt4
     obtain ⟨rfl,_,rfl⟩:Aw=some ⟨g4,0,none⟩∧p.wrs.length=p.wrs.length∧cw=c4:=by simpa using hv4
     have hy':p.wrs[i]?=some y.1:=hy
     obtain ⟨gy,cy,hvy,_⟩:=hsy.reads
     have hylt:y.1.id<p.files.length:=hw.ids _ (live_wrs (List.mem_of_getElem? hy'))
     have hyn:=(hw.wrs y.1 (List.mem_of_getElem? hy')).1
     have hsn:crashW ks 0 (p.wrs.take (i+1)) p.files=if (i:Int)∈ks then keepW (crashW ks 0 (p.wrs.take i) p.files) y.1 else crashW ks 0 (p.wrs.take i) p.files:=by
      rw [List.take_add_one,hy',Option.toList_some,crashW_snoc,List.length_take,Nat.zero_add,Nat.min_eq_left (by omega)]
     have HY:=Lib.hid (And.intro hsn (And.intro hvy (And.intro hsy (And.intro hylt (And.intro hyn hc4)))))
     clear hWy hy hy' hsn hvy hsy hylt hyn hc4
     have HR3:=Lib.hid hR3
     have hrb:=hR3.blk.lt
     clear hR3
     go_wp2
     go_loopw [8,9] (fun is k wr3=>Below wr.heap.size wr wr3∧∃ m,m≤ks.length∧k=.int .i64 m∧is=.bool (anyK ks i m)) (fun _ k _=>ks.length-(intOf k).toNat)
     case atStart=>exact ⟨Below.refl _ _,0,Nat.zero_le _,rfl,rfl⟩
     case round =>
      rename_i wr2 _ _
      obtain ⟨hb3,m,hm,rfl,rfl⟩:=hrel
      by_cases hlt5:m<ks.length
      ·have d5:decide (m<ks.length)=true:=by simpa using hlt5
       obtain ⟨x,hx⟩:∃ x,ks[m]?=some x:=⟨_,List.getElem?_eq_getElem hlt5⟩
       obtain ⟨ad,hAd,had,hcad⟩:=(HK.out wr (hfr3.trans (Fr.of_below hb3))).2 (by omega)
       have hcm:=hcad m (.int .i64 x) (by rw [List.getElem?_map,hx];rfl)
       subst hAd
       have m0:(0:Int)≤(m:Int):=by omega
       have m1:(m:Int)<(ks.length:Int):=by omega
       have hsu:=anyK_succ (j:=i) hx
       have HSU:=Lib.hid hsu
       clear hsu hcad hx
       cases hb:anyK ks i m with
       | true =>
        rw [hb] at HSU
        go_wp2
        try (go_quiet (fail))
        try go_wp2
        go_roundw
        case rel=>exact ⟨by first | exact below_drewN hb3 _ | exact hb3,m+1,by omega,by go_num,by rw [HSU.out];rfl⟩
        case measure=>simp [intOf];omega
       | false =>
        rw [hb] at HSU
        by_cases hxi:x=(i:Int)
        ·subst hxi
         have d6:((i:Int)==(i:Int))=true:=by simp
         go_wp2
         try (go_quiet (fail))
         try go_wp2
         go_roundw
         case rel=>exact ⟨by first | exact below_drewN hb3 _ | exact hb3,m+1,by omega,by go_num,by rw [HSU.out];simp⟩
         case measure=>simp [intOf];omega
        ·have d6:(x==(i:Int))=false:=by simpa using hxi
         have HXI:=Lib.hid d6
         go_wp2
         try (go_quiet (fail))
         try go_wp2
         go_roundw
         case rel=>exact ⟨by first | exact below_drewN hb3 _ | exact hb3,m+1,by omega,by go_num,by rw [HSU.out,HXI.out];rfl⟩
         case measure=>simp [intOf];omega
      ·obtain rfl:m=ks.length:=by omega
       have d5:decide (ks.length<ks.length)=false:=by simp
       rw [anyK_all]
       have hR4:=HR3.out.below hb3
       have k4':wr.cell? ⟨rb,4,none⟩=some (.slice (some ⟨g4,0,none⟩) p.wrs.length cw):=hR4.blk.cell 4
       obtain ⟨hsn,hvy,hsy,hylt,hyn,hc4⟩:=HY.out
       obtain ⟨y0,y1,y2⟩:=hc4 wr hb3
       rw [hvy] at y2
       have l0:(0:Int)≤(i:Int):=by omega
       have l1:(i:Int)<(p.wrs.length:Int):=by omega
       have hfr4:=hfr3.trans (Fr.of_below hb3)
       have hcl:y.1.id<({p with dir:=D,chs:=[],files:=crashW ks 0 (p.wrs.take i) p.files}:DP).files.length:=by show _<(crashW ks 0 _ p.files).length;rw [crashW_len];exact hylt
       have hcn:y.1.n<(({p with dir:=D,chs:=[],files:=crashW ks 0 (p.wrs.take i) p.files}:DP).file y.1.id).length:=by show _<((crashW ks 0 _ p.files).getD y.1.id []).length;rw [crashW_at];exact hyn
       by_cases hmem:(i:Int)∈ks
       ·have hd:decide ((i:Int)∈ks)=true:=decide_eq_true hmem
        rw [hd]
        have hKP:=RKeep_go (sv:=.slice (some ⟨gy,0,none⟩) 64 cy) (s:=y.1.s) hR4 hcl (by show (crashW ks 0 _ p.files).length≤1000;rw [crashW_len];exact hfl) hcn (by rw [←hvy];exact hsy.keep (KB.of_below hb3))
        have hpe:crashW ks 0 (p.wrs.take (i+1)) p.files=(crashW ks 0 (p.wrs.take i) p.files).set y.1.id (((crashW ks 0 (p.wrs.take i) p.files).getD y.1.id []).set y.1.n y.1.s):=by
         rw [hsn,if_pos hmem,keepW_set (by rw [crashW_len];exact hylt)]
        have HPE:=Lib.hid hpe
        have HKP:=Lib.hid hKP
        clear hKP hpe hsn hvy hsy hylt hyn hc4 hcl hcn hmem hd hR4
        go_wp2_with (go_at_call 88;refine HKP.out.mono ?_;rintro e w5 ⟨rfl,⟨L5,hR5⟩,hf5,hs5⟩)
        go_roundw
        case rel =>
         refine ⟨i+1,L5,by show i+1≤p.wrs.length;omega,by go_num,?_,?_⟩
         ·show RefV (More X w) _ rb _ _ _ _ V L5 W {p with dir:=D,chs:=[],files:=crashW ks 0 (p.wrs.take (i+1)) p.files}
          rw [HPE.out]
          exact hR5
         ·exact fr_more hfr4 hf5 (fun k hk=>hk)
        case measure=>simp [intOf];omega
       ·have hd:decide ((i:Int)∈ks)=false:=decide_eq_false hmem
        rw [hd]
        have hpe:crashW ks 0 (p.wrs.take (i+1)) p.files=crashW ks 0 (p.wrs.take i) p.files:=by rw [hsn,if_neg hmem]
        have HPE:=Lib.hid hpe
        clear hpe hsn hvy hsy hylt hyn hc4 hcl hcn hmem hd
        go_wp2
        go_roundw
        case rel =>
         refine ⟨i+1,L2,by show i+1≤p.wrs.length;omega,by go_num,?_,hfr4⟩
         show RefV (More X w) _ rb _ _ _ _ V L2 W {p with dir:=D,chs:=[],files:=crashW ks 0 (p.wrs.take (i+1)) p.files}
         rw [HPE.out]
         exact hR4
        case measure=>simp [intOf];omega
    ·obtain rfl:i=p.wrs.length:=by omega
     have d4:decide (p.wrs.length<p.wrs.length)=false:=by simp
     have hR3':RefV (More X w) wr rb (.slice A D.length c) (.slice none 0 0) vf (.slice Aw p.wrs.length cw) V L2 W {p with dir:=D,chs:=[],files:=crashW ks 0 p.wrs p.files}:=by
      have h1:=hR3
      change RefV _ _ _ _ _ _ _ _ _ _ {p with dir:=D,chs:=[],files:=crashW ks 0 (p.wrs.take p.wrs.length) p.files} at h1
      rw [List.take_length] at h1
      exact h1
     have y4:=hR3'.blk.frozen 4
     have hR5:=hR3'.cell (X':=More X w) (fun _ h=>h) (o:=4) (u:=.slice none 0 0) (vw':=.slice none 0 0) (W':=[]) (p':={p with dir:=D,chs:=[],files:=crashW ks 0 p.wrs p.files,wrs:=[]}) (by simp) rfl hR3'.dir hR3'.chs hR3'.fl RowX.nil rfl (fun y hy=>by cases hy)
     have y6:=hR5.blk.frozen 6
     have z6:=hR5.blk.cell 6
     have hR6:=hR5.cell (X':=More X w) (fun _ h=>h) (o:=6) (u:=.bool false) (W':=[]) (p':={p with dir:=D,chs:=[],files:=crashW ks 0 p.wrs p.files,wrs:=[],armed:=false}) (by simp) rfl hR5.dir hR5.chs hR5.fl hR5.wrs hR5.wp hR5.ws
     have hcp:crashP p changes ks={p with dir:=D,chs:=[],files:=crashW ks 0 p.wrs p.files,wrs:=[],armed:=false}:=by
      unfold crashP
      have:(p.chs.take changes.toNat).foldl turnP p.dir=D:=by
       rw [←HD.out,HFIN.out]
       congr 1
       by_cases hh:changes.toNat≤p.chs.length
       ·rw [Nat.min_eq_left hh]
       ·rw [Nat.min_eq_right (by omega),List.take_of_length_le (Nat.le_refl _),List.take_of_length_le (by omega)]
      rw [this]
     rw [←hcp] at hR6
     have HR6:=Lib.hid hR6
     clear hcp hR6 hR5 hR3 hR3'
     go_wp2
     go_end0
     exact ⟨rfl,⟨_,_,_,_,_,_,_,HR6.out⟩,(hfr3.setCell (p:=⟨rb,4,none⟩) (.inr hv.inX) _).setCell (p:=⟨rb,6,none⟩) (.inr hv.inX) _⟩
end
end Go.Proofs.YtekajggjoeimoaaGreatDoor
namespace Go.Proofs
open Go.RowKit Go.Maps Go.Sort Go.Shelf
theorem Tryz.sortsA (m:Nat):AnyZ.SortsIn Tryz.prog Tryz.sortedA_ren Fence.wide m :=
 ⟨fun blk off cap ss W hH hblk hsz=>callsIn_wide.2 (AnyM.slices_Sort_string Tryz.sortA blk off cap ss W hH hblk hsz),
  fun p cap W=>callsIn_wide.2 (AnyM.slices_Sort_string_none Tryz.sortA p cap W)⟩
namespace YtekajggjoeimoaaGreatDoor
open Go.WideElems (Fit rd rg)
def Rv:Value→Option (DataW Unit × List MemPlace):=fun _=>some (.nil,[])
theorem rd_ent {x:DE} (h:x.nm.size≤maxLen):rd Tryz.prog 9 Rv x.ent=some (.string x.nm.data.toList,.nil):=by
 have hk:keyOf Tryz.prog 9 (.string x.nm)=some (.string x.nm.data.toList):=by simp [keyOf,mapKey,Tryz.underlying9];exact h
 exact WideElems.rd_mk (yv:=(.nil,[])) hk rfl
theorem own_map {w:World} {M ck:Nat} {l:List DE} (hM:w.heap[M]?=some (.map (l.map DE.ent).toArray ck)) (ho:MapOK l ck) (hn:∀ x∈l,x.nm.size≤1000) (hl:l.length≤64) :
 w.ownsMap Tryz.prog 9 Rv M l.length (.map (((l.map DE.ent).map (rg Tryz.prog 9 Rv)).foldr DataW.insert [])):=by
 refine ⟨_,ck,hM,⟨by simp [maxLen];omega,⟨?_,?_,?_⟩,?_⟩,by simp,rfl⟩
 ·intro x hx
  simp only [List.mem_map] at hx
  obtain ⟨y,hy,rfl⟩:=hx
  exact ho.born y hy
 ·simp only [List.map_map,List.Nodup,List.pairwise_map]
  exact ho.order.imp fun hlt=>Nat.ne_of_lt hlt
 ·have:=ho.nodup
  simp only [List.map_map,List.Nodup,List.pairwise_map] at this ⊢
  exact this.imp fun hne e=>hne (by simpa [DE.ent] using e)
 ·intro x hx
  simp only [List.mem_map] at hx
  obtain ⟨y,hy,rfl⟩:=hx
  have:=hn y hy
  exact ⟨_,rd_ent (by simp only [maxLen];omega)⟩
def sN (d:List En):List (List UInt8):=(d.map fun e=>e.nm.data.toList).mergeSort leB
theorem keys_map {l:List DE} {d:List En} {fb:Nat→Nat} (hp:(l.map fun x=>(x.nm,x.f)).Perm (d.map fun e=>(e.nm,fb e.id))) (hn:∀ x∈l,x.nm.size≤1000) {ss:List (List UInt8)} (hs:ss.Perm (strKeys (.map (((l.map DE.ent).map (rg Tryz.prog 9 Rv)).foldr DataW.insert [])))) :
 ss.mergeSort leB=sN d:=by
 unfold sN
 refine mergeSort_of_perm (hs.trans ?_)
 refine ((WideShapes.sorted_perm _).map _).trans ?_
 have e1:(((l.map DE.ent).map (rg Tryz.prog 9 Rv)).map fun p=>strOf p.1)=(l.map fun x=>(x.nm,x.f)).map fun y=>y.1.data.toList:=by
  simp only [List.map_map]
  refine List.map_congr_left fun x hx=>?_
  have:=hn x hx
  simp only [Function.comp,rg,rd_ent (x:=x) (by simp only [maxLen];omega),Option.getD]
  rfl
 have e2:(d.map fun e=>e.nm.data.toList)=(d.map fun e=>(e.nm,fb e.id)).map fun y=>y.1.data.toList:=by simp [List.map_map,Function.comp_def]
 rw [e2]
 exact (List.Perm.of_eq e1).trans (hp.map _)
theorem keys_any (M:Nat) (w:World):Calls Tryz.prog 56 #[.map (some M)] w fun e w'=>e=.returned (.func (.func 96) #[] #[.pointer (some ⟨w.heap.size,0,none⟩)])∧w'=w.alloc (.cells #[.map (some M)] 62) :=
 (callsIn_wide (n:=5)).1 (AnyZ.keys_in Tryz.keysA Fence.wide 5 trivial rfl (some M) w)
theorem sorted_any {w:World} {M ck:Nat} {l:List DE} {d:List En} {fb:Nat→Nat} (hM:w.heap[M]?=some (.map (l.map DE.ent).toArray ck)) (ho:MapOK l ck) (hn:∀ x∈l,x.nm.size≤1000) (hl:l.length≤64)
 (hp:(l.map fun x=>(x.nm,x.f)).Perm (d.map fun e=>(e.nm,fb e.id))) :
 Calls Tryz.prog 55 #[.func (.func 96) #[] #[.pointer (some ⟨w.heap.size,0,none⟩)]] (w.alloc (.cells #[.map (some M)] 62)) fun e w' =>
  ∃ v,e=.returned v∧w'.ownsRow w.heap.size 9 1 v (sN d).length ((sN d).map encStr)∧Below w.heap.size w w':=by
 have hown:=own_map hM ho hn hl
 have hbl:=hown.lt
 have hsz:Maps.size (.map (((l.map DE.ent).map (rg Tryz.prog 9 Rv)).foldr DataW.insert []))=l.length:=by
  simp [Maps.size,(WideShapes.sorted_perm _).length_eq]
 have hseq:SeqGives Fence.wide 2 Tryz.prog 96 #[.pointer (some ⟨w.heap.size,0,none⟩)] encStr (fun ss=>ss.Perm (strKeys (.map (((l.map DE.ent).map (rg Tryz.prog 9 Rv)).foldr DataW.insert [])))) (Maps.size (.map (((l.map DE.ent).map (rg Tryz.prog 9 Rv)).foldr DataW.insert []))) (w.alloc (.cells #[.map (some M)] 62)) :=
  AnyZ.keys_gives (ρ:=Tryz.keysA_ren) {Tryz.keysA with} Fence.wide _ trivial rfl (by omega) w.heap.size M l.length _ _ (by simp) (by simp) (by
   obtain ⟨es,clock,hb,Ft,hs,hD⟩:=hown
   exact ⟨es,clock,(Below.heap_alloc _ _ M hbl).trans hb,Ft,hs,hD⟩)
 have cS:=AnyZ.sorted_in Tryz.sortedA Fence.wide 5 trivial trivial trivial trivial rfl (by omega) (Tryz.sortsA _) (enters_of Tryz.func95 (by kernel_rfl) rfl) 96 #[.pointer (some ⟨w.heap.size,0,none⟩)] trivial (enters_of Tryz.func96 (by kernel_rfl) rfl) _ _ (by rw [hsz];simp [maxLen];omega) (by rw [hsz];omega) _ hseq
 change CallsIn _ _ Tryz.prog 55 _ _ _ at cS
 refine ((callsIn_wide).1 cS).mono ?_
 rintro e w' ⟨v,ss,rfl,hS,hrow,hnil,hb⟩
 have hk:=keys_map hp hn hS
 have hlen:ss.length=(sN d).length:=by rw [←hk];simp
 refine ⟨v,rfl,?_,((Below.refl _ w).alloc (Nat.le_refl _) _).trans (hb.mono (by simp))⟩
 have h3:w'.ownsRow w.heap.size 9 1 v ss.length ((ss.mergeSort fun x y=>decide (x≤y)).map encStr):=ownsRow_base_a hrow (base':=w.heap.size) (by simp)
 have hk':(ss.mergeSort fun x y=>decide (x≤y))=sN d:=hk
 rw [hk',hlen] at h3
 exact h3
section
variable {X:Nat→Prop} {w:World} {db:Nat} {p:DP}
theorem nameOK_size {s:ByteArray} (h:nameOK s=true):s.size≤16:=by
 unfold nameOK at h
 simp only [Bool.and_eq_true,decide_eq_true_eq] at h
 exact h.1.2
set_option maxHeartbeats 1000000 in
set_option maxRecDepth 100000 in
theorem pd_names (h:PD X w db p) :
 Calls Tryz.prog 45 #[.pointer (some ⟨db,0,none⟩)] w fun e w'=>∃ v,e=.returned v∧w'.ownsRow w.heap.size 9 1 v (sN p.now).length ((sN p.now).map encStr)∧Below w.heap.size w w':=by
 obtain ⟨M1,M2,v3,v4,q,fs,V,C,fb,hD,hF,ht⟩:=h
 have c2:w.cell? ⟨db,2,none⟩=some (.map (some M2)):=hD.blk.cell 2
 have hS:=sorted_any hD.m2 ht.ok2 (fun x hx=>by
  obtain ⟨e,he,e1,_⟩:=ht.f_of hx
  rw [e1]
  have:=nameOK_size (ht.wf.now.name e he)
  omega) (by have:=ht.now8;omega) ht.permN
 have HS:=Lib.hid hS
 clear hS
 go_enter Tryz.func45,Tryz.ntmps45
 go_wp2_with (first
  | (go_at_call 56;refine (keys_any M2 w).mono ?_;rintro e w1 ⟨rfl,rfl⟩)
  | (go_at_call 55;refine HS.out.mono ?_;rintro e w9 ⟨v,rfl,ho,hb⟩))
 go_ret
 exact ⟨v,rfl,ho,hb⟩
end
end YtekajggjoeimoaaGreatDoor
end Go.Proofs
namespace Go.Proofs.YtekajggjoeimoaaGreatDoor
section
open Go.RowKit
theorem sN_perm (D:List En):(sN D).Perm (D.map fun e=>e.nm.data.toList):=List.mergeSort_perm _ _
theorem sN_len (D:List En):(sN D).length=D.length:=by rw [(sN_perm D).length_eq];simp
theorem nm_inj {a b:ByteArray} (h:a.data.toList=b.data.toList):a=b:=Go.WideShapes.bytes_inj h
theorem nms_nodup {D:List En} (hn:(names D).Nodup):(D.map fun e=>e.nm.data.toList).Nodup:=by
 unfold names List.Nodup at hn
 unfold List.Nodup
 rw [List.pairwise_map] at hn ⊢
 exact hn.imp fun h e=>h (nm_inj e)
theorem sN_pw {D:List En} (hn:(names D).Nodup):(sN D).Pairwise fun a b=>a≤b∧a≠b:=by
 have tr:∀ a b c:List UInt8,leB a b=true→leB b c=true→leB a c=true:=fun a b c h1 h2=>by simp only [leB,decide_eq_true_eq] at *;exact List.le_trans h1 h2
 have to:∀ a b:List UInt8,(leB a b || leB b a)=true:=fun a b=>by simp only [leB,Bool.or_eq_true,decide_eq_true_eq];exact List.le_total a b
 have h1:=List.pairwise_mergeSort tr to (D.map fun e=>e.nm.data.toList)
 have h2:(sN D).Nodup:=(sN_perm D).nodup_iff.2 (nms_nodup hn)
 exact (h1.and h2).imp fun h=>⟨by simpa [leB] using h.1,h.2⟩
theorem sN_min {D:List En} (hn:(names D).Nodup) {j:Nat} (hj:j<(sN D).length) {x:List UInt8} (hx:x∈sN D) (hxj:x∉(sN D).take j):(sN D)[j]≤x:=by
 obtain ⟨k,hk,rfl⟩:=List.getElem_of_mem hx
 by_cases h1:k<j
 ·exact absurd (List.mem_take_iff_getElem.2 ⟨k,by omega,rfl⟩) hxj
 ·by_cases h2:j=k
  ·subst h2;exact List.le_refl _
  ·exact (List.pairwise_iff_getElem.1 (sN_pw hn) j k hj hk (by omega)).1
theorem sN_fresh {D:List En} (hn:(names D).Nodup) {j:Nat} (hj:j<(sN D).length):(sN D)[j]∉(sN D).take j:=by
 intro h
 obtain ⟨k,hk,e⟩:=List.mem_take_iff_getElem.1 h
 exact (List.pairwise_iff_getElem.1 (sN_pw hn) k j (by omega) hj (by omega)).2 e
def BestR (D:List En) (j i:Nat) (b:ByteArray):Prop :=
 (b=ByteArray.empty∧∀ k (e:En),k<i→D[k]?=some e→e.nm.data.toList∈(sN D).take j) ∨
 (∃ k e,k<i∧D[k]?=some e∧b=e.nm∧b.data.toList∉(sN D).take j∧∀ k' (e':En),k'<i→D[k']?=some e'→e'.nm.data.toList∉(sN D).take j→b.data.toList≤e'.nm.data.toList)
theorem BestR.done {D:List En} (hn:(names D).Nodup) {j:Nat} (hj:j<(sN D).length) {b:ByteArray} (h:BestR D j D.length b):b.data.toList=(sN D)[j]:=by
 have hm:=(sN_perm D).mem_iff.1 (List.getElem_mem hj)
 obtain ⟨e,he,hee⟩:=List.mem_map.1 hm
 obtain ⟨k,hk,hke⟩:=List.getElem_of_mem he
 have hk':D[k]?=some e:=by rw [List.getElem?_eq_getElem hk,hke]
 have hf:=sN_fresh hn hj
 rcases h with ⟨_,h2⟩ | ⟨k1,e1,h1,h2,rfl,h4,h5⟩
 ·have:=h2 k e hk hk'
  rw [hee] at this
  exact absurd this hf
 ·have h6:=h5 k e hk hk' (by rw [hee];exact hf)
  rw [hee] at h6
  have h7:e1.nm.data.toList∈sN D:=(sN_perm D).mem_iff.2 (List.mem_map.2 ⟨e1,List.mem_of_getElem? h2,rfl⟩)
  exact List.le_antisymm h6 (sN_min hn hj h7 h4)
theorem BestR.skip {D:List En} {j i:Nat} {b:ByteArray} {e:En} (h:BestR D j i b) (he:D[i]?=some e) (hm:e.nm.data.toList∈(sN D).take j):BestR D j (i+1) b:=by
 rcases h with ⟨h1,h2⟩ | ⟨k1,e1,h1,h2,h3,h4,h5⟩
 ·refine .inl ⟨h1,fun k e' hk hke=>?_⟩
  by_cases hi:k=i
  ·subst hi;rw [he] at hke;cases hke;exact hm
  ·exact h2 k e' (by omega) hke
 ·refine .inr ⟨k1,e1,by omega,h2,h3,h4,fun k' e' hk hke hf=>?_⟩
  by_cases hi:k'=i
  ·subst hi;rw [he] at hke;cases hke;exact absurd hm hf
  ·exact h5 k' e' (by omega) hke hf
theorem BestR.take {D:List En} {j i:Nat} {b:ByteArray} {e:En} (h:BestR D j i b) (he:D[i]?=some e) (hm:e.nm.data.toList∉(sN D).take j) (hb:b=ByteArray.empty∨e.nm.data.toList≤b.data.toList) (hne:∀ e∈D,e.nm≠ByteArray.empty):BestR D j (i+1) e.nm:=by
 refine .inr ⟨i,e,by omega,he,rfl,hm,fun k' e' hk hke hf=>?_⟩
 by_cases hi:k'=i
 ·subst hi;rw [he] at hke;cases hke;exact List.le_refl _
 ·rcases h with ⟨h1,h2⟩ | ⟨k1,e1,h1,h2,h3,h4,h5⟩
  ·exact absurd (h2 k' e' (by omega) hke) hf
  ·rcases hb with hb | hb
   ·rw [h3] at hb;exact absurd hb (hne e1 (List.mem_of_getElem? h2))
   ·exact List.le_trans hb (h5 k' e' (by omega) hke hf)
theorem BestR.stay {D:List En} {j i:Nat} {b:ByteArray} {e:En} (h:BestR D j i b) (he:D[i]?=some e) (hb0:b≠ByteArray.empty) (hb:b.data.toList≤e.nm.data.toList):BestR D j (i+1) b:=by
 rcases h with ⟨h1,h2⟩ | ⟨k1,e1,h1,h2,h3,h4,h5⟩
 ·exact absurd h1 hb0
 ·refine .inr ⟨k1,e1,by omega,h2,h3,h4,fun k' e' hk hke hf=>?_⟩
  by_cases hi:k'=i
  ·subst hi;rw [he] at hke;cases hke;exact hb
  ·exact h5 k' e' (by omega) hke hf
def bN (D:List En):List ByteArray:=(sN D).map fun x=>⟨x.toArray⟩
theorem bN_val (D:List En):(sN D).map encStr=strs (bN D):=by simp [bN,strs,encStr]
def freshK (D:List En) (s:ByteArray) (m:Nat):Bool:=!((bN D).take m).any fun b=>decide (b=s)
theorem freshK_succ {D:List En} {s:ByteArray} {m:Nat} {b:ByteArray} (hb:(bN D)[m]?=some b):freshK D s (m+1)=(freshK D s m && !decide (b=s)):=by
 unfold freshK
 rw [List.take_add_one,hb,List.any_append];simp
theorem freshK_all (D:List En) (s:ByteArray) (m:Nat):freshK D s m=decide (s.data.toList∉(sN D).take m):=by
 unfold freshK bN
 rw [Bool.eq_iff_iff,Bool.not_eq_true',decide_eq_true_eq,←Bool.not_eq_true,List.any_eq_true]
 refine not_congr ⟨?_,?_⟩
 ·rintro ⟨b,hb,e⟩
  rw [←List.map_take] at hb
  obtain ⟨y,hy,rfl⟩:=List.mem_map.1 hb
  have e2:(⟨y.toArray⟩:ByteArray)=s:=by simpa using e
  rw [←e2]
  simpa using hy
 ·intro h
  refine ⟨s,?_,by simp⟩
  rw [←List.map_take]
  exact List.mem_map.2 ⟨_,h,by simp⟩
theorem out_cell {w:World} {A:Option Addr} {B j c:Nat} {bs:List ByteArray} (ho:w.ownsRow B 9 1 (.slice A j c) j (strs bs)) (h0:0<j):∃ g,A=some ⟨g,0,none⟩∧B≤g∧g<w.heap.size∧∀ W,Below w.heap.size w W→∀ (m:Nat) (b:ByteArray),bs[m]?=some b→W.cell? ⟨g,m,none⟩=some (.string b):=by
 rcases ho.2 with ⟨_,h1⟩ | ⟨g,cap,cur,h1,h2,h3,h4,h5,h6,h7⟩
 ·omega
 ·simp only [Value.slice.injEq] at h1
  have hb:Blk w g 9 cur:=h3
  refine ⟨g,h1.1,h2,hb.lt,fun W hW m b hm=>?_⟩
  refine (hW.cell (p:=⟨g,m,none⟩) hb.lt).trans ((hb.cell m).trans ?_)
  have:(strs bs)[m]?=some (.string b):=by unfold strs;rw [List.getElem?_map,hm];rfl
  rw [←h7,List.getElem?_take] at this
  split at this
  ·simpa using this
  ·cases this
theorem em_true {b:ByteArray} (h:b=ByteArray.empty):b.toList.isEmpty=true:=List.isEmpty_iff.2 ((toList_nil_iff_emptyBytes b).2 h)
theorem em_false {b:ByteArray} (h:b≠ByteArray.empty):b.toList.isEmpty=false:=by
 cases e:b.toList.isEmpty with
 | false=>rfl
 | true=>exact absurd ((toList_nil_iff_emptyBytes b).1 (List.isEmpty_iff.1 e)) h
def slen:Value→Nat
 | .slice _ n _=>n
 | _=>0
section
variable {X X':Nat→Prop} {w w' w1 w2 w3:World} {rb:Nat} {vd vc vf vw:Value} {V:Nat→Value} {L:Nat→List (ByteArray × Value)} {W:List (PW × Value)} {p:DP}
set_option maxHeartbeats 8000000 in
set_option maxRecDepth 100000 in
theorem RNames_any (h:RefV X w rb vd vc vf vw V L W p) (hw:WF p) (hc:p.chs.length≤1000) :
 Calls Tryz.prog 46 #[.pointer (some ⟨rb,0,none⟩)] w fun e w'=>∃ v,e=.returned v∧w'.ownsRow w.heap.size 9 1 v (sN p.now).length ((sN p.now).map encStr)∧Below w.heap.size w w':=by
 have hN:=RNow_any h hw hc
 have hlen:=hw.now.len
 have hnd:=hw.now.nodup
 have hne:∀ e∈p.now,e.nm≠ByteArray.empty:=fun e he=>nameOK_ne (hw.now.name e he)
 obtain ⟨D,hD⟩:∃ D,p.now=D:=⟨_,rfl⟩
 rw [hD] at hN hlen hnd hne ⊢
 clear hD
 rw [bN_val,sN_len]
 have hbl:(bN D).length=D.length:=by unfold bN;rw [List.length_map,sN_len]
 have HBL:=Lib.hid (And.intro hbl (And.intro hnd hne))
 clear hbl hnd hne
 go_enter Tryz.func46,Tryz.ntmps46
 go_wp2_with (go_at_call 86;refine hN.mono ?_;rintro e w1 ⟨v,rfl,hr,hb⟩;obtain ⟨A,c,rfl⟩:=hr.form)
 go_loopw [4] (fun out wr=>Below w.heap.size w wr∧Below w1.heap.size w1 wr∧∃ j A2 c2,j≤D.length∧out=.slice A2 j c2∧wr.ownsRow w1.heap.size 9 1 out j (strs ((bN D).take j))) (fun out _=>D.length-slen out)
 case atStart=>exact ⟨hb,Below.refl _ _,0,none,0,Nat.zero_le _,rfl,World.ownsRow_nil _ _ _ _⟩
 case round =>
  obtain ⟨hbw,hb1,j,A2,c2,hj,rfl,ho⟩:=hrel
  obtain ⟨wo,rfl⟩:∃ wo,wo=wr:=⟨wr,rfl⟩
  by_cases hlt:j<D.length
  ·have d1:decide (j<D.length)=true:=by simpa using hlt
   have HO:=Lib.hid (And.intro ho (And.intro hbw (And.intro hb1 hb)))
   have hrb:∀ W,Below wo.heap.size wo W→Below w1.heap.size w1 W:=fun W h=>hb1.trans (h.mono hb1.size)
   clear ho hbw hb1
   go_wp2
   go_loopw [5,6] (fun best i wr2=>Below wo.heap.size wo wr2∧∃ k b,k≤D.length∧i=.int .i64 k∧best=.string b∧BestR D j k b) (fun _ i _=>D.length-(intOf i).toNat)
   case atStart=>exact ⟨Below.refl _ _,0,ByteArray.empty,Nat.zero_le _,rfl,rfl,.inl ⟨rfl,fun k e hk=>by omega⟩⟩
   case round =>
    obtain ⟨hb2,k,b,hk,rfl,rfl,hbest⟩:=hrel
    obtain ⟨wm,rfl⟩:∃ wm,wm=wr:=⟨wr,rfl⟩
    have HB:=Lib.hid hbest
    clear hbest
    by_cases hlt2:k<D.length
    ·have d2:decide (k<D.length)=true:=by simpa using hlt2
     obtain ⟨x,hx⟩:∃ x,D[k]?=some x:=⟨_,List.getElem?_eq_getElem hlt2⟩
     obtain ⟨gl,cur,rfl,hg,hcur⟩:=EnRow.of_row hr (by omega)
     have hcx:∀ W,Below wm.heap.size wm W→W.cell? ⟨gl,k*2,none⟩=some (.string x.nm):=fun W hW=>((hrb W (hb2.trans (hW.mono hb2.size))).cell (p:=⟨gl,k*2,none⟩) hg.lt).trans ((hg.cell _).trans (hcur _ _ ((en_at hx 0 (by omega)).trans rfl)))
     have k0:(0:Int)≤(k:Int):=by omega
     have k1:(k:Int)<(D.length:Int):=by omega
     have HX:=Lib.hid hx
     clear hx hcur
     go_wp2
     go_loopw [7,8] (fun fr m wr3=>Below wm.heap.size wm wr3∧∃ n,n≤j∧m=.int .i64 n∧fr=.bool (freshK D x.nm n)) (fun _ m _=>j-(intOf m).toNat)
     case atStart=>exact ⟨Below.refl _ _,0,Nat.zero_le _,rfl,rfl⟩
     case round =>
      obtain ⟨hb3,n,hn,rfl,rfl⟩:=hrel
      have e1:=hcx wr hb3
      by_cases hlt3:n<j
      ·have d3:decide (n<j)=true:=by simpa using hlt3
       obtain ⟨go,hA2,hgo1,hgo2,hcell⟩:=out_cell HO.out.1 (by omega)
       subst hA2
       obtain ⟨ob,hob⟩:∃ ob,(bN D)[n]?=some ob:=⟨_,List.getElem?_eq_getElem (by have:=HBL.out.1;omega)⟩
       have e2:=hcell wr (hb2.trans (hb3.mono hb2.size)) n ob (by rw [List.getElem?_take,if_pos hlt3];exact hob)
       have hsu:=freshK_succ (s:=x.nm) hob
       have HSU:=Lib.hid hsu
       clear hsu hob hcell
       have n0:(0:Int)≤(n:Int):=by omega
       have n1:(n:Int)<(j:Int):=by omega
       cases hf:freshK D x.nm n with
       | false =>
        rw [hf] at HSU
        go_wp2
        go_quiet (fail)
        go_wp2
        go_roundw
        case rel=>exact ⟨below_drewN hb3 _,n+1,by omega,by go_num,by rw [HSU.out];rfl⟩
        case measure=>simp [intOf];omega
       | true =>
        rw [hf] at HSU
        by_cases hxo:ob=x.nm
        ·have d4:=tl_eq hxo
         have d5:(ob.toList != x.nm.toList)=false:=by simp [bne,d4]
         have HXO:=Lib.hid hxo
         clear hxo
         go_wp2
         go_quiet (fail)
         go_wp2
         go_roundw
         case rel=>exact ⟨below_drewN hb3 _,n+1,by omega,by go_num,by rw [HSU.out,HXO.out];simp⟩
         case measure=>simp [intOf];omega
        ·have d4:=tl_ne hxo
         have d5:(ob.toList != x.nm.toList)=true:=by simp [bne,d4]
         have HXO:=Lib.hid hxo
         clear hxo
         go_wp2
         go_quiet (fail)
         go_wp2
         go_roundw
         case rel=>exact ⟨below_drewN hb3 _,n+1,by omega,by go_num,by rw [HSU.out];simp [HXO.out]⟩
         case measure=>simp [intOf];omega
      ·obtain rfl:n=j:=by omega
       have d3:decide (n<n)=false:=by simp
       have hfa:=freshK_all D x.nm n
       have HFA:=Lib.hid hfa
       have hbm:=hb2.trans (hb3.mono hb2.size)
       clear hfa
       cases hf:freshK D x.nm n with
       | false =>
        rw [hf] at HFA
        go_wp2
        go_roundw
        case rel =>
         refine ⟨hbm,k+1,b,by omega,by go_num,rfl,HB.out.skip HX.out ?_⟩
         have h1:=HFA.out
         simpa using h1.symm
        case measure=>simp [intOf];omega
       | true =>
        rw [hf] at HFA
        have hnot:x.nm.data.toList∉(sN D).take n:=by simpa using HFA.out.symm
        by_cases hbe:b=ByteArray.empty
        ·have d6:=em_true hbe
         have d7:b.toList=[]:=(toList_nil_iff_emptyBytes b).2 hbe
         have HE:=Lib.hid (And.intro hbe hnot)
         clear hbe hnot
         go_wp2
         go_roundw
         case rel=>exact ⟨hbm,k+1,x.nm,by omega,by go_num,rfl,HB.out.take HX.out HE.out.2 (.inl HE.out.1) HBL.out.2.2⟩
         case measure=>simp [intOf];omega
        ·have d6:=em_false hbe
         have d7:¬ b.toList=[]:=fun h=>hbe ((toList_nil_iff_emptyBytes b).1 h)
         cases hl:Op.bytesLess x.nm.toList b.toList with
         | true =>
          have h9:x.nm.data.toList<b.data.toList:=by
           rw [bytesLess_eq,ByteArray.toList_eq,ByteArray.toList_eq] at hl
           exact of_decide_eq_true hl
          have HE:=Lib.hid (And.intro h9 hnot)
          clear h9 hbe hnot
          go_wp2
          go_roundw
          case rel=>exact ⟨hbm,k+1,x.nm,by omega,by go_num,rfl,HB.out.take HX.out HE.out.2 (.inr (fun h=>absurd (List.lt_trans HE.out.1 h) (List.lt_irrefl _))) HBL.out.2.2⟩
          case measure=>simp [intOf];omega
         | false =>
          have h9:¬ x.nm.data.toList<b.data.toList:=by
           rw [bytesLess_eq,ByteArray.toList_eq,ByteArray.toList_eq] at hl
           exact of_decide_eq_false hl
          have HE:=Lib.hid (And.intro h9 hbe)
          clear h9 hbe hnot
          go_wp2
          go_roundw
          case rel=>exact ⟨hbm,k+1,b,by omega,by go_num,rfl,HB.out.stay HX.out HE.out.2 HE.out.1⟩
          case measure=>simp [intOf];omega
    ·obtain rfl:k=D.length:=by omega
     have d2:decide (D.length<D.length)=false:=by simp
     have hjs:j<(sN D).length:=by rw [sN_len];exact hlt
     have hbd:(bN D)[j]?=some b:=by
      have h1:=HB.out.done HBL.out.2.1 hjs
      unfold bN
      rw [List.getElem?_map,List.getElem?_eq_getElem hjs,←h1]
      simp
     have hts:(bN D).take (j+1)=(bN D).take j++[b]:=by rw [List.take_add_one,hbd];rfl
     have HTS:=Lib.hid hts
     clear hjs hbd hts
     have ho2:=own_below' HO.out.1 hb2
     have hbs:=hb2.size
     have hb1s:=(hrb wm hb2).size
     have HS:=Lib.hid (And.intro hbs hb1s)
     clear hbs hb1s
     go_wp2_with (at_builtin;refine list_push TSt rfl rfl w1.heap.size rfl (ho2.alloc _) rfl (reads_blk (cs:=#[.string b]) (blk_newH _ _ _ rfl) rfl) (by intro u hu;simp at hu;subst hu;rfl) (by omega) (by have:=HS.out.2;simp;omega) rfl (ys:=strs ((bN D).take j++[b])) (by simp [strs]) ?_;intro A9 c9 w9 ho9 hg9 hl9)
     go_roundw
     case rel =>
      have hge:∀ k,(Value.slice A2 j c2).ownBlock=some k→w1.heap.size≤k:=fun k hk=>(HO.out.1.lt k hk).1
      have hB1:Below w1.heap.size w1 w9:=((hrb wm hb2).alloc HS.out.2 _).grown hg9 (by have:=HS.out.2;simp;omega) hge
      have hBw:Below w.heap.size w w9:=HO.out.2.2.2.trans (hB1.mono HO.out.2.2.2.size)
      refine ⟨hBw,hB1,j+1,A9,c9,by omega,rfl,?_⟩
      rw [HTS.out]
      exact ho9
     case measure=>simp [slen];omega
  ·obtain rfl:j=D.length:=by omega
   have d1:decide (D.length<D.length)=false:=by simp
   have ht1:(bN D).take D.length=bN D:=by rw [←HBL.out.1];exact List.take_length
   rw [ht1] at ho
   clear ht1
   go_wp2
   go_ret
   exact ⟨_,rfl,own_le ho hb.size,hbw⟩
end
end
section
open Go.RowKit
def MoL (X:Nat→Prop) (w:World) (rb:Nat) (r:Int × ByteArray × DP) (e:Ending) (w':World):Prop:=e=.returned (.tuple #[.int .i64 r.1,.string r.2.1])∧RD (More X w) w' rb r.2.2∧Fr X w w'
structure DmIn (X:Nat→Prop) (w:World) (x:Dd) (Ap Ak:Option Addr):Prop where
 p:∀ W0,Fr X w W0→Reads W0 W0.heap.size 1 Ap x.p.size (bvals x.p)
 k:∀ W0,Fr X w W0→Reads W0 W0.heap.size 1 Ak x.keep.length (x.keep.map (.int .i64))
 sa:x.a.size≤100000
 sb:x.b.size≤100000
 sp:x.p.size≤100000
 sk:x.keep.length≤100000
section
variable {X X':Nat→Prop} {w w' w1 w2 w3:World} {rb:Nat} {p p':DP} {x:Dd} {Ap Ak:Option Addr} {cp ck:Nat}
theorem RD.below (h:RD X w rb p) (hb:Below w.heap.size w w'):RD X w' rb p:=by
 obtain ⟨vd,vc,vf,vw,V,L,W,hv⟩:=h
 exact ⟨vd,vc,vf,vw,V,L,W,hv.below hb⟩
theorem RD.more (h:RD X w rb p) (hX:∀ k,X k→X' k):RD X' w rb p:=by
 obtain ⟨vd,vc,vf,vw,V,L,W,hv⟩:=h
 exact ⟨vd,vc,vf,vw,V,L,W,hv.keep hX Same.refl (KB.refl _)⟩
theorem RA.below (h:RA X w rb p) (hb:Below w.heap.size w w'):RA X w' rb p :=
 ⟨h.rd.below hb,h.wf,fun k hk=>Nat.lt_of_lt_of_le (h.lt k hk) hb.size,fun k cs hk=>by rw [hb.block k (h.lt k hk)];exact h.nb k cs hk,h.after,h.chs,h.wrs,h.fls⟩
theorem mo_end {w0:World} (hB:Below w.heap.size w w0) (hp:RL X w0 rb p' w1):RD (More X w) w1 rb p'∧Fr X w w1 :=
 ⟨hp.1.more (fun k hk=>hk.imp id (fun h=>Nat.le_trans hB.size h)),(Fr.of_below hB).trans hp.2⟩
set_option maxHeartbeats 4000000 in
set_option maxRecDepth 100000 in
theorem mo_create (h:RA X w rb p) (hd:DmIn X w x Ap Ak) (hk:x.kind=0) :
 Calls Tryz.prog 13 #[.pointer (some ⟨rb,0,none⟩),x.val Ap cp Ak ck] w (MoL X w rb ((createP p x.a).1,ByteArray.empty,(createP p x.a).2)):=by
 have bX0:=Blk.new w 39 #[.int .i64 0,.string x.a,.string x.b,.int .i64 x.n,.slice Ap x.p.size cp,.slice Ak x.keep.length ck]
 have hB0:Below w.heap.size w (w.alloc (.cells #[.int .i64 0,.string x.a,.string x.b,.int .i64 x.n,.slice Ap x.p.size cp,.slice Ak x.keep.length ck] 39)):=(Below.refl _ w).alloc (Nat.le_refl _) _
 have HA:=h.below hB0
 have hx:¬ X w.heap.size:=fun hx=>absurd (h.lt _ hx) (Nat.lt_irrefl _)
 have hC:=RCreate_any HA x.a (Nat.le_trans hd.sa (by omega))
 have hsp:=hd.sp
 have hsz:x.p.size≤1000000:=Nat.le_trans hsp (by omega)
 clear hsp
 unfold Dd.val
 rw [hk]
 go_enter Tryz.func13,Tryz.ntmps13
 go_wp2_with (go_at_call 35;refine hC.mono ?_;rintro e w1 ⟨rfl,hL1⟩)
 go_ret2
 exact ⟨rfl,mo_end hB0 hL1⟩
set_option maxHeartbeats 4000000 in
set_option maxRecDepth 100000 in
theorem mo_remove (h:RA X w rb p) (hd:DmIn X w x Ap Ak) (hk:x.kind=1) :
 Calls Tryz.prog 13 #[.pointer (some ⟨rb,0,none⟩),x.val Ap cp Ak ck] w (MoL X w rb ((removeP p x.a).1,ByteArray.empty,(removeP p x.a).2)):=by
 have bX0:=Blk.new w 39 #[.int .i64 1,.string x.a,.string x.b,.int .i64 x.n,.slice Ap x.p.size cp,.slice Ak x.keep.length ck]
 have hB0:Below w.heap.size w (w.alloc (.cells #[.int .i64 1,.string x.a,.string x.b,.int .i64 x.n,.slice Ap x.p.size cp,.slice Ak x.keep.length ck] 39)):=(Below.refl _ w).alloc (Nat.le_refl _) _
 have HA:=h.below hB0
 have hx:¬ X w.heap.size:=fun hx=>absurd (h.lt _ hx) (Nat.lt_irrefl _)
 have hC:=RRemove_any HA x.a
 have hsp:=hd.sp
 have hsz:x.p.size≤1000000:=Nat.le_trans hsp (by omega)
 clear hsp
 unfold Dd.val
 rw [hk]
 go_enter Tryz.func13,Tryz.ntmps13
 go_wp2_with (go_at_call 36;refine hC.mono ?_;rintro e w1 ⟨rfl,hL1⟩)
 go_ret2
 exact ⟨rfl,mo_end hB0 hL1⟩
set_option maxHeartbeats 4000000 in
set_option maxRecDepth 100000 in
theorem mo_rename (h:RA X w rb p) (hd:DmIn X w x Ap Ak) (hk:x.kind=2) :
 Calls Tryz.prog 13 #[.pointer (some ⟨rb,0,none⟩),x.val Ap cp Ak ck] w (MoL X w rb ((renameP p x.a x.b).1,ByteArray.empty,(renameP p x.a x.b).2)):=by
 have bX0:=Blk.new w 39 #[.int .i64 2,.string x.a,.string x.b,.int .i64 x.n,.slice Ap x.p.size cp,.slice Ak x.keep.length ck]
 have hB0:Below w.heap.size w (w.alloc (.cells #[.int .i64 2,.string x.a,.string x.b,.int .i64 x.n,.slice Ap x.p.size cp,.slice Ak x.keep.length ck] 39)):=(Below.refl _ w).alloc (Nat.le_refl _) _
 have HA:=h.below hB0
 have hx:¬ X w.heap.size:=fun hx=>absurd (h.lt _ hx) (Nat.lt_irrefl _)
 have hC:=RRename_any HA x.a x.b (Nat.le_trans hd.sb (by omega))
 have hsp:=hd.sp
 have hsz:x.p.size≤1000000:=Nat.le_trans hsp (by omega)
 clear hsp
 unfold Dd.val
 rw [hk]
 go_enter Tryz.func13,Tryz.ntmps13
 go_wp2_with (go_at_call 37;refine hC.mono ?_;rintro e w1 ⟨rfl,hL1⟩)
 go_ret2
 exact ⟨rfl,mo_end hB0 hL1⟩
set_option maxHeartbeats 4000000 in
set_option maxRecDepth 100000 in
theorem mo_grow (h:RA X w rb p) (hd:DmIn X w x Ap Ak) (hk:x.kind=3) :
 Calls Tryz.prog 13 #[.pointer (some ⟨rb,0,none⟩),x.val Ap cp Ak ck] w (MoL X w rb ((growP p x.a x.n).1,ByteArray.empty,(growP p x.a x.n).2)):=by
 have bX0:=Blk.new w 39 #[.int .i64 3,.string x.a,.string x.b,.int .i64 x.n,.slice Ap x.p.size cp,.slice Ak x.keep.length ck]
 have hB0:Below w.heap.size w (w.alloc (.cells #[.int .i64 3,.string x.a,.string x.b,.int .i64 x.n,.slice Ap x.p.size cp,.slice Ak x.keep.length ck] 39)):=(Below.refl _ w).alloc (Nat.le_refl _) _
 have HA:=h.below hB0
 have hx:¬ X w.heap.size:=fun hx=>absurd (h.lt _ hx) (Nat.lt_irrefl _)
 have hC:=RGrow_any HA x.a x.n
 have hsp:=hd.sp
 have hsz:x.p.size≤1000000:=Nat.le_trans hsp (by omega)
 clear hsp
 unfold Dd.val
 rw [hk]
 go_enter Tryz.func13,Tryz.ntmps13
 go_wp2_with (go_at_call 38;refine hC.mono ?_;rintro e w1 ⟨rfl,hL1⟩)
 go_ret2
 exact ⟨rfl,mo_end hB0 hL1⟩
set_option maxHeartbeats 4000000 in
set_option maxRecDepth 100000 in
theorem mo_write (h:RA X w rb p) (hd:DmIn X w x Ap Ak) (hk:x.kind=4) :
 Calls Tryz.prog 13 #[.pointer (some ⟨rb,0,none⟩),x.val Ap cp Ak ck] w (MoL X w rb ((writeP p x.a x.n x.p).1,ByteArray.empty,(writeP p x.a x.n x.p).2)):=by
 have bX0:=Blk.new w 39 #[.int .i64 4,.string x.a,.string x.b,.int .i64 x.n,.slice Ap x.p.size cp,.slice Ak x.keep.length ck]
 have hB0:Below w.heap.size w (w.alloc (.cells #[.int .i64 4,.string x.a,.string x.b,.int .i64 x.n,.slice Ap x.p.size cp,.slice Ak x.keep.length ck] 39)):=(Below.refl _ w).alloc (Nat.le_refl _) _
 have HA:=h.below hB0
 have hx:¬ X w.heap.size:=fun hx=>absurd (h.lt _ hx) (Nat.lt_irrefl _)
 have hrp:∀ W0,Fr X (w.alloc (.cells #[.int .i64 4,.string x.a,.string x.b,.int .i64 x.n,.slice Ap x.p.size cp,.slice Ak x.keep.length ck] 39)) W0→Reads W0 W0.heap.size 1 Ap x.p.size (bytesOf x.p):=fun W0 hW=>hd.p W0 ((Fr.of_below hB0).trans hW)
 have hC:=RWrite_any HA x.a x.n (cp:=cp) hrp (Nat.le_trans hd.sp (by omega))
 have hsp:=hd.sp
 have hsz:x.p.size≤1000000:=Nat.le_trans hsp (by omega)
 clear hsp
 unfold Dd.val
 rw [hk]
 go_enter Tryz.func13,Tryz.ntmps13
 go_wp2_with (go_at_call 39;refine hC.mono ?_;rintro e w1 ⟨rfl,hL1⟩)
 go_ret2
 exact ⟨rfl,mo_end hB0 hL1⟩
set_option maxHeartbeats 4000000 in
set_option maxRecDepth 100000 in
theorem mo_sync (h:RA X w rb p) (hd:DmIn X w x Ap Ak) (hk:x.kind=6) :
 Calls Tryz.prog 13 #[.pointer (some ⟨rb,0,none⟩),x.val Ap cp Ak ck] w (MoL X w rb ((syncP p x.a).1,ByteArray.empty,(syncP p x.a).2)):=by
 have bX0:=Blk.new w 39 #[.int .i64 6,.string x.a,.string x.b,.int .i64 x.n,.slice Ap x.p.size cp,.slice Ak x.keep.length ck]
 have hB0:Below w.heap.size w (w.alloc (.cells #[.int .i64 6,.string x.a,.string x.b,.int .i64 x.n,.slice Ap x.p.size cp,.slice Ak x.keep.length ck] 39)):=(Below.refl _ w).alloc (Nat.le_refl _) _
 have HA:=h.below hB0
 have hx:¬ X w.heap.size:=fun hx=>absurd (h.lt _ hx) (Nat.lt_irrefl _)
 have hC:=RSync_any HA x.a
 have hsp:=hd.sp
 have hsz:x.p.size≤1000000:=Nat.le_trans hsp (by omega)
 clear hsp
 unfold Dd.val
 rw [hk]
 go_enter Tryz.func13,Tryz.ntmps13
 go_wp2_with (go_at_call 41;refine hC.mono ?_;rintro e w1 ⟨rfl,hL1⟩)
 go_ret2
 exact ⟨rfl,mo_end hB0 hL1⟩
set_option maxHeartbeats 4000000 in
set_option maxRecDepth 100000 in
theorem mo_syncdir (h:RA X w rb p) (hd:DmIn X w x Ap Ak) (hk:x.kind=7) :
 Calls Tryz.prog 13 #[.pointer (some ⟨rb,0,none⟩),x.val Ap cp Ak ck] w (MoL X w rb ((syncdirP p).1,ByteArray.empty,(syncdirP p).2)):=by
 have bX0:=Blk.new w 39 #[.int .i64 7,.string x.a,.string x.b,.int .i64 x.n,.slice Ap x.p.size cp,.slice Ak x.keep.length ck]
 have hB0:Below w.heap.size w (w.alloc (.cells #[.int .i64 7,.string x.a,.string x.b,.int .i64 x.n,.slice Ap x.p.size cp,.slice Ak x.keep.length ck] 39)):=(Below.refl _ w).alloc (Nat.le_refl _) _
 have HA:=h.below hB0
 have hx:¬ X w.heap.size:=fun hx=>absurd (h.lt _ hx) (Nat.lt_irrefl _)
 have hC:=RSyncDir_any HA
 have hsp:=hd.sp
 have hsz:x.p.size≤1000000:=Nat.le_trans hsp (by omega)
 clear hsp
 unfold Dd.val
 rw [hk]
 go_enter Tryz.func13,Tryz.ntmps13
 go_wp2_with (go_at_call 42;refine hC.mono ?_;rintro e w1 ⟨rfl,hL1⟩)
 go_ret2
 exact ⟨rfl,mo_end hB0 hL1⟩
theorem RArm_rl (h:RA X w rb p) (after code:Int):Calls Tryz.prog 43 #[.pointer (some ⟨rb,0,none⟩),.int .i64 after,.int .i64 code] w fun e w'=>e=.returned (.tuple #[])∧RL X w rb (armP p after code) w':=by
 obtain ⟨⟨vd,vc,vf,vw,V,L,W,hv⟩,hw,hlt,hnb,ha,hc,hww,hfl⟩:=h
 refine (RArm_go hv after code).mono ?_
 rintro e w' ⟨rfl,h1,h2⟩
 exact ⟨rfl,hv.step h2 (Below.refl _ _) h1⟩
set_option maxHeartbeats 4000000 in
set_option maxRecDepth 100000 in
theorem mo_arm (h:RA X w rb p) (hd:DmIn X w x Ap Ak) (hk:x.kind=8) :
 Calls Tryz.prog 13 #[.pointer (some ⟨rb,0,none⟩),x.val Ap cp Ak ck] w (MoL X w rb (0,ByteArray.empty,armP p x.n x.p.size)):=by
 have bX0:=Blk.new w 39 #[.int .i64 8,.string x.a,.string x.b,.int .i64 x.n,.slice Ap x.p.size cp,.slice Ak x.keep.length ck]
 have hB0:Below w.heap.size w (w.alloc (.cells #[.int .i64 8,.string x.a,.string x.b,.int .i64 x.n,.slice Ap x.p.size cp,.slice Ak x.keep.length ck] 39)):=(Below.refl _ w).alloc (Nat.le_refl _) _
 have HA:=h.below hB0
 have hx:¬ X w.heap.size:=fun hx=>absurd (h.lt _ hx) (Nat.lt_irrefl _)
 have hC:=RArm_rl HA x.n x.p.size
 have hsp:=hd.sp
 have hsz:x.p.size≤1000000:=Nat.le_trans hsp (by omega)
 clear hsp
 unfold Dd.val
 rw [hk]
 go_enter Tryz.func13,Tryz.ntmps13
 go_wp2_with (go_at_call 43;refine hC.mono ?_;rintro e w1 ⟨rfl,hL1⟩)
 go_ret2
 exact ⟨rfl,mo_end hB0 hL1⟩
set_option maxHeartbeats 4000000 in
set_option maxRecDepth 100000 in
theorem mo_crash (h:RA X w rb p) (hd:DmIn X w x Ap Ak) (hk:x.kind=9) :
 Calls Tryz.prog 13 #[.pointer (some ⟨rb,0,none⟩),x.val Ap cp Ak ck] w (MoL X w rb (0,ByteArray.empty,crashP p x.n x.keep)):=by
 have bX0:=Blk.new w 39 #[.int .i64 9,.string x.a,.string x.b,.int .i64 x.n,.slice Ap x.p.size cp,.slice Ak x.keep.length ck]
 have hB0:Below w.heap.size w (w.alloc (.cells #[.int .i64 9,.string x.a,.string x.b,.int .i64 x.n,.slice Ap x.p.size cp,.slice Ak x.keep.length ck] 39)):=(Below.refl _ w).alloc (Nat.le_refl _) _
 have HA:=h.below hB0
 have hx:¬ X w.heap.size:=fun hx=>absurd (h.lt _ hx) (Nat.lt_irrefl _)
 have hrk:∀ W0,Fr X (w.alloc (.cells #[.int .i64 9,.string x.a,.string x.b,.int .i64 x.n,.slice Ap x.p.size cp,.slice Ak x.keep.length ck] 39)) W0→Reads W0 W0.heap.size 1 Ak x.keep.length (x.keep.map (.int .i64)):=fun W0 hW=>hd.k W0 ((Fr.of_below hB0).trans hW)
 have hC:=RCrash_any HA x.n (ck:=ck) hrk (Nat.le_trans hd.sk (by omega))
 have hsp:=hd.sp
 have hsz:x.p.size≤1000000:=Nat.le_trans hsp (by omega)
 clear hsp
 unfold Dd.val
 rw [hk]
 go_enter Tryz.func13,Tryz.ntmps13
 go_wp2_with (go_at_call 44;refine hC.mono ?_;rintro e w1 ⟨rfl,hL1⟩)
 go_ret2
 exact ⟨rfl,mo_end hB0 hL1⟩
set_option maxHeartbeats 4000000 in
set_option maxRecDepth 100000 in
theorem mo_read (h:RA X w rb p) (hd:DmIn X w x Ap Ak) (hk:x.kind=5) :
 Calls Tryz.prog 13 #[.pointer (some ⟨rb,0,none⟩),x.val Ap cp Ak ck] w (MoL X w rb (readP p x.a x.n)):=by
 have bX0:=Blk.new w 39 #[.int .i64 5,.string x.a,.string x.b,.int .i64 x.n,.slice Ap x.p.size cp,.slice Ak x.keep.length ck]
 have hB0:Below w.heap.size w (w.alloc (.cells #[.int .i64 5,.string x.a,.string x.b,.int .i64 x.n,.slice Ap x.p.size cp,.slice Ak x.keep.length ck] 39)):=(Below.refl _ w).alloc (Nat.le_refl _) _
 have HA:=h.below hB0
 have hx:¬ X w.heap.size:=fun hx=>absurd (h.lt _ hx) (Nat.lt_irrefl _)
 have hC:=RRead_any HA x.a x.n
 have hsp:=hd.sp
 have hsz:x.p.size≤1000000:=Nat.le_trans hsp (by omega)
 clear hsp
 unfold Dd.val
 rw [hk]
 go_enter Tryz.func13,Tryz.ntmps13
 go_wp2_with (go_at_call 40;refine hC.mono ?_;rintro e w1 ⟨⟨v,rfl,hS⟩,hL1⟩)
 have hSd:StrOr w1.drew v (readP p x.a x.n).2.1:=hS
 have hv1:=StrOr.conv hSd Tryz.underlying9
 go_region_held3 (fun W0=>(convert 36 9 v).run Tryz.prog W0=.ok (.string (readP p x.a x.n).2.1) W0)
  (exact hv1)
  (fail)
 go_wp2
 go_ret2
 exact ⟨rfl,(mo_end hB0 hL1).1.below (Below.refl _ w1).drew,(mo_end hB0 hL1).2.drew⟩
set_option maxHeartbeats 4000000 in
set_option maxRecDepth 100000 in
theorem mo_none (h:RA X w rb p) (hn:x.kind<0∨9<x.kind) :
 Calls Tryz.prog 13 #[.pointer (some ⟨rb,0,none⟩),x.val Ap cp Ak ck] w (MoL X w rb (0,ByteArray.empty,p)):=by
 have e0:(x.kind==0)=false:=beq_eq_false_iff_ne.2 (by omega)
 have e1:(x.kind==1)=false:=beq_eq_false_iff_ne.2 (by omega)
 have e2:(x.kind==2)=false:=beq_eq_false_iff_ne.2 (by omega)
 have e3:(x.kind==3)=false:=beq_eq_false_iff_ne.2 (by omega)
 have e4:(x.kind==4)=false:=beq_eq_false_iff_ne.2 (by omega)
 have e5:(x.kind==5)=false:=beq_eq_false_iff_ne.2 (by omega)
 have e6:(x.kind==6)=false:=beq_eq_false_iff_ne.2 (by omega)
 have e7:(x.kind==7)=false:=beq_eq_false_iff_ne.2 (by omega)
 have e8:(x.kind==8)=false:=beq_eq_false_iff_ne.2 (by omega)
 have e9:(x.kind==9)=false:=beq_eq_false_iff_ne.2 (by omega)
 have hB:Below w.heap.size w (w.alloc (.cells #[.int .i64 x.kind,.string x.a,.string x.b,.int .i64 x.n,.slice Ap x.p.size cp,.slice Ak x.keep.length ck] 39)):=(Below.refl _ w).alloc (Nat.le_refl _) _
 unfold Dd.val
 go_enter Tryz.func13,Tryz.ntmps13
 go_wp2
 go_ret2
 exact ⟨rfl,(h.below hB).rd.more (fun k hk=>.inl hk),Fr.of_below hB⟩
theorem mo_any (h:RA X w rb p) (hd:DmIn X w x Ap Ak) :
 Calls Tryz.prog 13 #[.pointer (some ⟨rb,0,none⟩),x.val Ap cp Ak ck] w (MoL X w rb (doP p x)):=by
 unfold doP
 by_cases e0:x.kind=0
 ·rw [if_pos e0];exact mo_create h hd e0
 rw [if_neg e0]
 by_cases e1:x.kind=1
 ·rw [if_pos e1];exact mo_remove h hd e1
 rw [if_neg e1]
 by_cases e2:x.kind=2
 ·rw [if_pos e2];exact mo_rename h hd e2
 rw [if_neg e2]
 by_cases e3:x.kind=3
 ·rw [if_pos e3];exact mo_grow h hd e3
 rw [if_neg e3]
 by_cases e4:x.kind=4
 ·rw [if_pos e4];exact mo_write h hd e4
 rw [if_neg e4]
 by_cases e5:x.kind=5
 ·rw [if_pos e5];exact mo_read h hd e5
 rw [if_neg e5]
 by_cases e6:x.kind=6
 ·rw [if_pos e6];exact mo_sync h hd e6
 rw [if_neg e6]
 by_cases e7:x.kind=7
 ·rw [if_pos e7];exact mo_syncdir h hd e7
 rw [if_neg e7]
 by_cases e8:x.kind=8
 ·rw [if_pos e8];exact mo_arm h hd e8
 rw [if_neg e8]
 by_cases e9:x.kind=9
 ·rw [if_pos e9];exact mo_crash h hd e9
 rw [if_neg e9]
 exact mo_none h (by omega)
end
end
section
open Go.RowKit
set_option maxHeartbeats 1000000 in
set_option maxRecDepth 100000 in
theorem New_any2 (w:World) {room:Int} (h0:0≤room) (h1:room≤4096):Calls Tryz.prog 9 #[.int .i64 room] w fun e w'=>e=.returned (.tuple #[.pointer (some ⟨w.heap.size+2,0,none⟩),.nilIface]) ∧
 ∃ M1 M2,M1≠M2∧w.heap.size≤M1∧w'.heap[M1]?=some (.map #[] 0)∧w.heap.size≤M2∧w'.heap[M2]?=some (.map #[] 0)∧Blk w' (w.heap.size+2) 66 (dcells room (.map (some M1)) (.map (some M2)) (.slice none 0 0) (.slice none 0 0) false 0 0)∧Below w.heap.size w w':=by
 have hmm:=@run_makeMap Tryz.prog
 have d0:decide (room<0)=false:=by simp;omega
 have d1:decide (4096<room)=false:=by simp;omega
 go_enter Tryz.func9,Tryz.ntmps9
 go_wp2
 go_ret2
 have e1:((w.alloc (.map #[] 0)).alloc (.map #[] 0)).heap.size=w.heap.size+2:=by simp
 have e2:(w.alloc (.map #[] 0)).heap.size=w.heap.size+1:=by simp
 refine ⟨rfl,w.heap.size,w.heap.size+1,by omega,by omega,?_,by omega,?_,?_,(((Below.refl _ _).alloc (Nat.le_refl _) _).alloc (by simp) _).alloc (by simp;omega) _⟩
 ·exact (Below.heap_alloc _ _ _ (by simp;omega)).trans ((Below.heap_alloc _ _ _ (by simp)).trans (heap_alloc_new w (.map #[] 0)))
 ·have h1:=heap_alloc_new (w.alloc (.map #[] 0)) (.map #[] 0)
  rw [e2] at h1
  exact (Below.heap_alloc _ _ _ (by simp)).trans h1
 ·have:=Blk.new ((w.alloc (.map #[] 0)).alloc (.map #[] 0)) 66 #[.int .i64 room,.map (some w.heap.size),.map (some (w.heap.size+1)),.slice none 0 0,.slice none 0 0,.bool false,.int .i64 0,.int .i64 0]
  rw [e1] at this
  exact this
def nmA:ByteArray:=⟨#[97]⟩
def qS (f:Nat) (ws:List Wr):DQ:=⟨16,[⟨nmA,f,0⟩],1,[⟨nmA,f,0⟩],1,[],ws,false,0,0⟩
def DS (B:Nat) (Y:Nat→Prop) (w:World) (db:Nat) (fs:List Nat) (C:Nat→Bool→List ByteArray) (q:DQ):Prop :=
 ∃ X M1 M2 v3 v4 V,(∀ k,X k→k<w.heap.size∧B≤k∧¬ Y k)∧DiskV X w db M1 M2 v3 v4 q∧FilesV X w fs V C
section
variable {B:Nat} {Y Y':Nat→Prop} {w w':World} {db:Nat} {fs:List Nat} {C C':Nat→Bool→List ByteArray} {q q':DQ}
def FrN (B:Nat) (Y:Nat→Prop) (w w':World):Prop:=Fr (fun k=>B≤k∧¬ Y k) w w'
end
end
section
open Go.RowKit
def opNew:ByteArray:=⟨#[110,101,119]⟩
theorem new_go (w:World) {room:Int} (h:0≤room∧room≤4096):Calls Tryz.prog 9 #[.int .i64 room] w fun e w'=>(∃ db,e=.returned (.tuple #[.pointer (some ⟨db,0,none⟩),.nilIface])∧PD (fun k=>w.heap.size≤k) w' db (newP room))∧Below w.heap.size w w':=by
 refine (New_any2 w h.1 h.2).mono ?_
 rintro e w' ⟨rfl,M1,M2,hne,hM1,h1,hM2,h2,hblk,hb⟩
 refine ⟨⟨_,rfl,M1,M2,.slice none 0 0,.slice none 0 0,⟨room,[],0,[],0,[],[],false,0,0⟩,[],fun _ _=>.slice none 0 0,fun _ _=>[],fun i=>i,?_,?_,Tie.nil h⟩,hb⟩
 ·exact ⟨hblk,h1,h2,hne,by omega,hM1,hM2,⟨by simp,by simp,by simp⟩,⟨by simp,by simp,by simp⟩,RowX.nil,RowX.nil⟩
 ·exact ⟨by simp,by simp,by simp,by simp⟩
set_option maxHeartbeats 1000000 in
set_option maxRecDepth 100000 in
theorem new_err (w:World) {room:Int} (h:room<0∨4096<room):Calls Tryz.prog 9 #[.int .i64 room] w fun e w'=>(∃ v,e=.returned (.tuple #[.pointer none,v])∧ErrAt w.heap.size w' opNew ByteArray.empty 2 v)∧Below w.heap.size w w':=by
 have hF:=fault_any w opNew ByteArray.empty 2
 by_cases h0:room<0
 ·have d0:decide (room<0)=true:=by simpa using h0
  go_enter Tryz.func9,Tryz.ntmps9
  go_wp2_with (go_at_call 29;refine hF.mono ?_;rintro e w1 ⟨⟨v,rfl,hE⟩,hb⟩)
  go_ret2
  exact ⟨⟨v,rfl,hE⟩,hb⟩
 ·have d0:decide (room<0)=false:=by simpa using h0
  have d1:decide (4096<room)=true:=by simpa using h.resolve_left h0
  go_enter Tryz.func9,Tryz.ntmps9
  go_wp2_with (go_at_call 29;refine hF.mono ?_;rintro e w1 ⟨⟨v,rfl,hE⟩,hb⟩)
  go_ret2
  exact ⟨⟨v,rfl,hE⟩,hb⟩
set_option maxHeartbeats 1000000 in
set_option maxRecDepth 100000 in
theorem rnew_go (w:World) {room:Int} (h:0≤room∧room≤4096):Calls Tryz.prog 10 #[.int .i64 room] w fun e w'=>(∃ rb,e=.returned (.tuple #[.pointer (some ⟨rb,0,none⟩),.int .i64 0])∧RD (fun k=>w.heap.size≤k) w' rb (newP room))∧Below w.heap.size w w':=by
 have d0:decide (room<0)=false:=by simp;omega
 have d1:decide (4096<room)=false:=by simp;omega
 go_enter Tryz.func10,Tryz.ntmps10
 go_wp2
 go_ret2
 refine ⟨⟨_,rfl,.slice none 0 0,.slice none 0 0,.slice none 0 0,.slice none 0 0,fun _=>.slice none 0 0,fun _=>[],[],?_⟩,(Below.refl _ _).alloc (Nat.le_refl _) _⟩
 refine ⟨Blk.new w 72 _,Nat.le_refl _,RowX.nil,RowX.nil,RowX.nil,RowX.nil,rfl,by simp,?_,?_,?_,?_⟩
 all_goals
  intro i
  intros
  simp only [newP,List.length_nil] at *
  omega
set_option maxHeartbeats 1000000 in
set_option maxRecDepth 100000 in
theorem rnew_err (w:World) {room:Int} (h:room<0∨4096<room):Calls Tryz.prog 10 #[.int .i64 room] w fun e w'=>e=.returned (.tuple #[.pointer none,.int .i64 2])∧w=w':=by
 by_cases h0:room<0
 ·have d0:decide (room<0)=true:=by simpa using h0
  go_enter Tryz.func10,Tryz.ntmps10
  go_wp2
  go_ret2
  exact ⟨rfl,rfl⟩
 ·have d0:decide (room<0)=false:=by simpa using h0
  have d1:decide (4096<room)=true:=by simpa using h.resolve_left h0
  go_enter Tryz.func10,Tryz.ntmps10
  go_wp2
  go_ret2
  exact ⟨rfl,rfl⟩
end
end Go.Proofs.YtekajggjoeimoaaGreatDoor
