/- A part of the proof of DiskSaves. No condition of its own. -/
import Derived.Test.YtekajggjoeimoaaGreatDoorSg
import Derived.Lib.ConvBytes
import Derived.Test.YtekajggjoeimoaaGreatDoorSf
set_option linter.unusedVariables false
namespace Go.Proofs.YtekajggjoeimoaaGreatDoor
section
open Go.RowKit
def opGrow:ByteArray:=⟨#[103,114,111,119]⟩
theorem Tryz.info5':(Tryz.prog.info? 5).map (fun i=>(i.zero,i.size,i.bytes))=some (some (.int .u8 0),1,1):=by kernel_rfl
def Z64:Array Value:=madeCells #[.int .u8 0] 64
theorem mk64 (W:World):(Instr.makeSlice 36 (.int .i64 64) (.int .i64 64)).run Tryz.prog W=.ok (.slice (some ⟨W.heap.size,0,none⟩) 64 64) (W.alloc (.cells Z64 5)):=by
 obtain ⟨i0,hi0,hz0,hz1,hz2⟩:=info_parts Tryz.info5'
 have h:=run_makeSlice (P:=Tryz.prog) W 36 5 i0 _ Tryz.underlying36 hi0 hz0 .i64 .i64 64 64 (by omega) (Int.le_refl _) (by rw [hz1];decide) (by rw [hz2];omega) (by omega)
 rw [hz1] at h
 exact h
theorem cv64 (W:World) (g:Nat) (h:Blk W g 5 Z64):(convert 36 101 (.slice (some ⟨g,0,none⟩) 64 64)).run Tryz.prog W=.ok (.string zeroS) W:=by
 have hz:∀ j,j<64→Z64[j]?=some (.int .u8 0):=fun j hj=>by
  unfold Z64 madeCells
  simp [hj,Nat.mod_one]
 have h1:=run_convert_bytes_back (P:=Tryz.prog) W 36 101 5 ⟨g,0,none⟩ 64 (List.replicate 64 0) Tryz.underlying36 Tryz.underlying5 Tryz.underlying101 (fun j hj=>by
  have e:(⟨g,0,none⟩:Addr).add j=⟨g,j,none⟩:=by unfold Addr.add;split <;> simp_all
  rw [e,h.cell j,hz j (by simpa using hj),List.getElem_replicate]
  rfl)
 rw [List.length_replicate] at h1
 exact h1
theorem own_below' {w w':World} {B e size n:Nat} {v:Value} {xs:List Value} (h:w.ownsRow B e size v n xs) (hb:Below w.heap.size w w'):w'.ownsRow B e size v n xs :=
 h.kept (row:=none) ⟨hb.os,hb.tape,hb.output,hb.size,fun k hk _=>hb.block k hk⟩ (by cases v.ownBlock <;> simp)
theorem own_set' {w:World} {B e size n f o:Nat} {v u:Value} {xs:List Value} {t:TypeId} {cs:Array Value} (h:w.ownsRow B e size v n xs) (hb:Blk w f t cs) (he:t≠e):(w.setCell ⟨f,o,none⟩ u).ownsRow B e size v n xs:=by
 refine ⟨h.1,h.2.imp id ?_⟩
 rintro ⟨g,cap,cur,e1,e2,e3,e4⟩
 refine ⟨g,cap,cur,e1,e2,(Below.heap_setCell _ _ _ _ (fun e=>?_)).trans e3,e4⟩
 have e':g=f:=e
 subst e'
 unfold Blk at hb
 rw [hb] at e3
 cases e3
 exact he rfl
theorem full_reads {w:World} {g m:Nat} {s:ByteArray} (h:Full w g m m s):Reads w w.heap.size 1 (some ⟨g,0,none⟩) m (strs (List.replicate m s)):=by
 obtain ⟨cur,hb,hs,hc⟩:=h
 refine ⟨by simp [strs],fun h0=>⟨_,rfl,hb.lt,fun j u hu=>?_⟩⟩
 have e:(⟨g,0,none⟩:Addr).add j=⟨g,j,none⟩:=by unfold Addr.add;split <;> simp_all
 have hj:j<m:=by have:=(List.getElem?_eq_some_iff.1 hu).1;simpa [strs] using this
 rw [e,hb.cell j,hc j hj]
 simp only [strs,List.map_replicate,List.getElem?_replicate,hj,if_true] at hu
 exact hu
theorem Full.grown {w w':World} {g n k:Nat} {s:ByteArray} {row:Option Nat} (h:Full w g n k s) (hg:w.grownBy w' row) (hne:some g≠row):Full w' g n k s:=by
 obtain ⟨cur,hb,r⟩:=h
 exact ⟨cur,(hg.block g hb.lt hne).trans hb,r⟩
theorem Full.far {w:World} {g n k f o:Nat} {s:ByteArray} {u:Value} (h:Full w g n k s) (hne:g≠f):Full (w.setCell ⟨f,o,none⟩ u) g n k s:=by
 obtain ⟨cur,hb,r⟩:=h
 exact ⟨cur,hb.far hne _,r⟩
def GrowPost (w1:World) (f ks cs kn cn m:Nat) (As An:Option Addr) (ls ln:List ByteArray) (w':World):Prop :=
 ∃ w3 A4 c4 w4 A6 c6 w6,Below w1.heap.size w1 w3∧w4.ownsRow 0 101 1 (.slice A4 (ks+m) c4) (ks+m) (strs ls++strs (List.replicate m zeroS))∧w3.grownBy w4 (.slice As ks cs:Value).ownBlock ∧
  ((.slice A4 (ks+m) c4:Value).ownBlock=(.slice As ks cs:Value).ownBlock∨(.slice A4 (ks+m) c4:Value).ownBlock=some w3.heap.size) ∧
  w6.ownsRow 0 101 1 (.slice A6 (kn+m) c6) (kn+m) (strs ln++strs (List.replicate m zeroS))∧(w4.setCell ⟨f,0,none⟩ (.slice A4 (ks+m) c4)).grownBy w6 (.slice An kn cn:Value).ownBlock ∧
  ((.slice A6 (kn+m) c6:Value).ownBlock=(.slice An kn cn:Value).ownBlock∨(.slice A6 (kn+m) c6:Value).ownBlock=some w4.heap.size)∧Below w6.heap.size (w6.setCell ⟨f,1,none⟩ (.slice A6 (kn+m) c6)) w'
set_option maxHeartbeats 4000000 in
set_option maxRecDepth 100000 in
theorem Grow_walk {w w1:World} {db f:Nat} {room after code:Int} {armed:Bool} {sf nw ch wrs:Value} {nm:ByteArray} {As An:Option Addr} {ks cs kn cn:Nat} {u n:Nat} {ls ln:List ByteArray}
 (hO:Calls Tryz.prog 73 #[.pointer (some ⟨db,0,none⟩),.string nm] w fun e w'=>e=.returned (.tuple #[.pointer (some ⟨f,0,none⟩),.int .i64 0])∧w'=w1)
 (hd:Blk w1 db 66 (dcells room sf nw ch wrs armed after code)) (hf:Blk w1 f 103 #[.slice As ks cs,.slice An kn cn])
 (hU:∀ W,Below w1.heap.size w1 W→Calls Tryz.prog 74 #[.pointer (some ⟨db,0,none⟩)] W fun e w'=>e=.returned (.int .i64 u)∧Below W.heap.size W w') (hu:u≤40000) (h1:kn≤n) (h2:n≤4096) (h3:(u:Int)+n-kn≤room) (hr:room≤4096) (hk:kn≤4096)
 (os:w1.ownsRow 0 101 1 (.slice As ks cs) ks (strs ls)) (on:w1.ownsRow 0 101 1 (.slice An kn cn) kn (strs ln)) (hks:ks≤4096) (hap:(.slice An kn cn:Value).ownBlock=none∨(.slice An kn cn:Value).ownBlock≠(.slice As ks cs:Value).ownBlock) :
 Calls Tryz.prog 24 #[.pointer (some ⟨db,0,none⟩),.string nm,.int .i64 n] w fun e w'=>Ends w opGrow nm 0 e w'∧GrowPost w1 f ks cs kn cn (n-kn) As An ls ln w':=by
 obtain ⟨i8,hi8,hz8,hz8',hz8''⟩:=info_parts Tryz.info101
 have f1:w1.cell? ⟨f,1,none⟩=some (.slice An kn cn):=hf.cell 1
 have d0:decide ((n:Int)<(kn:Int))=false:=by simp;omega
 have d1:decide ((4096:Int)<(n:Int))=false:=by simp;omega
 have d3:decide (room<(u:Int)+n-kn)=false:=by simp;omega
 have hs1:IntKind.i64.wrap ((u:Int)+(n:Int))=(u:Int)+(n:Int):=by rw [IntKind.wrap_i64];omega
 have hs2:IntKind.i64.wrap ((u:Int)+(n:Int)-(kn:Int))=(u:Int)+(n:Int)-(kn:Int):=by rw [IntKind.wrap_i64];omega
 have hs3:IntKind.i64.wrap ((n:Int)-(kn:Int))=((n-kn:Nat):Int):=by rw [IntKind.wrap_i64];omega
 have b0:Below w1.heap.size w1 w1.drew:=⟨rfl,rfl,rfl,Nat.le_refl _,fun _ _=>rfl⟩
 have e0:=hd.cell 0
 go_enter Tryz.func24,Tryz.ntmps24
 go_wp2_with (first
  | (go_at_call 73;refine hO.mono ?_;rintro e w9 ⟨rfl,h9⟩;obtain rfl:w1=w9:=h9.symm))
 go_region_held3 (fun w'=>w'.cell? ⟨f,1,none⟩=some (.slice An kn cn)∧w'.cell? ⟨db,0,none⟩=some (.int .i64 room))
  (first
   | exact ⟨f1,e0⟩
   | exact ⟨hf2.cell 1,hd2.cell 0⟩)
  ((go_at_call 74;refine (hU w1.drew b0).mono ?_;rintro e w2 ⟨rfl,hb2'⟩;have hb2:Below w1.heap.size w1 w2:=⟨hb2'.os,hb2'.tape,hb2'.output,hb2'.size,hb2'.block⟩;have hf2:Blk w2 f 103 _:=(hb2.block f hf.lt).trans hf;have hd2:Blk w2 db 66 _:=(hb2.block db hd.lt).trans hd))
 go_wp2_with fail
 have hc1:=hf2.cell 1
 have hmk:=mk64 w2.drew
 have hcv:=cv64 (w2.alloc (.cells Z64 5)).drew w2.heap.size (Blk.new w2 5 Z64)
 have hrd:Reads ((w2.alloc (.cells Z64 5)).alloc (.cells #[.string zeroS] 101)).drew (w2.heap.size+2) 1 (some ⟨w2.heap.size+1,0,none⟩) 1 [.string zeroS]:=by
  refine ⟨rfl,fun _=>⟨_,rfl,by show w2.heap.size+1<w2.heap.size+2;omega,fun j u hu=>?_⟩⟩
  have hj:j<1:=(List.getElem?_eq_some_iff.1 hu).1
  obtain rfl:j=0:=by omega
  have hb:=Blk.new (w2.alloc (.cells Z64 5)) 101 #[.string zeroS]
  have e:(w2.alloc (.cells Z64 5)).heap.size=w2.heap.size+1:=by simp
  rw [e] at hb
  exact (hb.cell 0).trans hu
 refine regionE 10 (fun w'=>w'.cell? ⟨f,1,none⟩=some (.slice An kn cn)) (by kernel_rfl) (by kernel_rfl) (by kernel_rfl) (by kernel_rfl) (by kernel_rfl) hc1 (fun hHeld hTl=>?_)
 refine tkT 3 (v:=?_) hTl hHeld rfl ?_ (fun hTl=>?_);rotate_left
 ·intro w hSw;(try dsimp only at hSw);go_simp;all_goals with_reducible rfl
 try simp only [pT]
 refine tkT 4 (v:=?_) hTl hHeld rfl ?_ (fun hTl=>?_);rotate_left
 ·intro w hSw;(try dsimp only at hSw);go_simp;all_goals with_reducible rfl
 try simp only [pT]
 refine tkT 5 (v:=?_) hTl hHeld rfl ?_ (fun hTl=>?_);rotate_left
 ·intro w hSw;(try dsimp only at hSw);go_simp;all_goals with_reducible rfl
 try simp only [pT]
 refine tkT 6 (v:=?_) hTl hHeld rfl ?_ (fun hTl=>?_);rotate_left
 ·intro w hSw;(try dsimp only at hSw);go_simp;all_goals with_reducible rfl
 try simp only [pT]
 refine tkT 7 (v:=?_) hTl hHeld rfl ?_ (fun hTl=>?_);rotate_left
 ·intro w hSw;(try dsimp only at hSw);go_simp;all_goals with_reducible rfl
 try simp only [pT]
 refine tkT 8 (v:=?_) hTl hHeld rfl ?_ (fun hTl=>?_);rotate_left
 ·intro w hSw;(try dsimp only at hSw);go_simp;all_goals with_reducible rfl
 try simp only [pT]
 refine tkT 9 (v:=?_) hTl hHeld rfl ?_ (fun hTl=>?_);rotate_left
 ·intro w hSw;(try dsimp only at hSw);go_simp;all_goals with_reducible rfl
 try simp only [pT]
 clear hTl
 refine oneE 0 rfl (by kernel_rfl) (fun K hK=>?_)
 go_simp
 refine hK.out _ _ (fun _=>(hf2.alloc _).cell 1) ?_
 clear hK K
 try simp only [pT]
 refine oneE 1 rfl (by kernel_rfl) (fun K hK=>?_)
 go_simp
 refine hK.out _ _ (fun _=>(hf2.alloc _).cell 1) ?_
 clear hK K
 try simp only [pT]
 refine oneE 2 rfl (by kernel_rfl) (fun K hK=>?_)
 go_simp
 refine hK.out _ _ (fun _=>((hf2.alloc _).alloc _).cell 1) ?_
 clear hK K
 try simp only [pT]
 refine oneE 10 rfl (by kernel_rfl) (fun K hK=>?_)
 go_simp
 (go_at_call 75;refine (Repeat_one (B:=w2.heap.size+2) (n-kn) (by omega) hrd (by simp)).mono ?_;rintro e w3 ⟨rfl,hF3,hb3⟩;have hB3:Below w2.heap.size w2 w3:=by {have hq:Below w2.heap.size w2 ((w2.alloc (.cells Z64 5)).alloc (.cells #[.string zeroS] 101)).drew:=(((Below.refl _ w2).alloc (Nat.le_refl _) _).alloc (by simp) _).drew;exact hq.trans (hb3.mono hq.size)};have hf3:Blk w3 f 103 _:=(hB3.block f hf2.lt).trans hf2)
 try go_wp2_with fail
 refine hK.out _ _ (fun h=>absurd h (by decide)) ?_
 clear hK K
 try simp only [pT]
 refine oneE 11 rfl (by kernel_rfl) (fun K hK=>?_)
 go_simp
 refine hK.out _ _ (fun h=>absurd h (by decide)) ?_
 clear hK K
 try simp only [pT]
 refine doneE (by kernel_rfl) ?_ _
 all_goals
  have hB13:Below w1.heap.size w1 w3:=hb2.trans (hB3.mono hb2.size)
  have os3:=own_below' os hB13
  have on3:=own_below' on hB13
  have g0:w3.cell? ⟨f,0,none⟩=some (.slice As ks cs):=hf3.cell 0
  have e2:((w2.alloc (.cells Z64 5)).alloc (.cells #[.string zeroS] 101)).drew.heap.size=w2.heap.size+1+1:=by show ((w2.alloc (.cells Z64 5)).alloc (.cells #[.string zeroS] 101)).heap.size=_;simp
  rw [e2] at hF3 hb3
  have hnb:∀ k,some k=(.slice As ks cs:Value).ownBlock→k≠w2.heap.size+1+1:=fun k hk=>by
   have:=(os.lt k hk.symm).2
   have:=hb2.size
   omega
  have hnb2:∀ k,some k=(.slice An kn cn:Value).ownBlock→k≠w2.heap.size+1+1:=fun k hk=>by
   have:=(on.lt k hk.symm).2
   have:=hb2.size
   omega
  have hfl:=hf.lt
  have hbs:=hb2.size
  clear hmk hcv hrd
  have hfull:=full_reads hF3
  have hFn:some (w2.heap.size+1+1)≠(.slice As ks cs:Value).ownBlock:=fun e=>hnb _ e rfl
  have hFf:w2.heap.size+1+1≠f:=by omega
  go_wp2_with (first
   | (at_builtin;refine wpList_append_any _ rfl (.tmp 31) (.tmp 32) _ rfl 0 101 i8 _ 1 16 Tryz.underlying99 hi8 hz8 hz8' hz8'' rfl (by omega) (.slice As ks cs) ks (strs ls) rfl os3 w3.heap.size _ (n-kn) (n-kn) (strs (List.replicate (n-kn) zeroS)) rfl hfull (strs_one _) (by simp only [maxLen];omega) (by omega) (by omega) ?_;intro v4 w4 ho4 hg4 hl4;obtain ⟨A4,c4,rfl⟩:=own_formN ho4;have hf4:Blk w4 f 103 #[.slice As ks cs,.slice An kn cn]:=blk_otherN hf3 hg4 os3 (by decide);have k4:w4.cell? ⟨f,0,none⟩=some (.slice As ks cs):=hf4.cell 0;have l4:=hf4.frozen 0;have hf5:Blk (w4.setCell ⟨f,0,none⟩ (.slice A4 (ks+(n-kn)) c4)) f 103 #[.slice A4 (ks+(n-kn)) c4,.slice An kn cn]:=hf4.set_ 0 _;have on5:=own_set' (o:=0) (u:=.slice A4 (ks+(n-kn)) c4) (on3.kept hg4 hap) hf4 (by decide);have k5:(w4.setCell ⟨f,0,none⟩ (.slice A4 (ks+(n-kn)) c4)).cell? ⟨f,1,none⟩=some (.slice An kn cn):=hf5.cell 1;have hF5:=full_reads ((hF3.grown hg4 hFn).far (f:=f) (o:=0) (u:=.slice A4 (ks+(n-kn)) c4) hFf))
   | (at_builtin;refine wpList_append_any _ rfl (.tmp 40) (.tmp 41) _ rfl 0 101 i8 _ 1 16 Tryz.underlying99 hi8 hz8 hz8' hz8'' rfl (by omega) (.slice An kn cn) kn (strs ln) rfl on5 (w4.setCell ⟨f,0,none⟩ (.slice A4 (ks+(n-kn)) c4)).heap.size _ (n-kn) (n-kn) (strs (List.replicate (n-kn) zeroS)) rfl hF5 (strs_one _) (by simp only [maxLen];omega) (by omega) (by omega) ?_;intro v6 w6 ho6 hg6 hl6;obtain ⟨A6,c6,rfl⟩:=own_formN ho6;have hf6:Blk w6 f 103 #[.slice A4 (ks+(n-kn)) c4,.slice An kn cn]:=blk_otherN hf5 hg6 on5 (by decide);have k6:w6.cell? ⟨f,1,none⟩=some (.slice An kn cn):=hf6.cell 1;have l6:=hf6.frozen 1)
   | (go_at_call 29;refine (fault_any _ _ _ _).mono ?_;rintro e w7 ⟨⟨v,rfl,hv⟩,hb7⟩))
  go_ret
  have e9:(Value.slice A6 (kn+(n-kn)) c6)=.slice A6 n c6:=by rw [show kn+(n-kn)=n by omega]
  have e7:(w6.setCell ⟨f,1,none⟩ (.slice A6 n c6)).heap.size=w6.heap.size:=by simp [World.setCell]
  have h7:Below w6.heap.size (w6.setCell ⟨f,1,none⟩ (.slice A6 (kn+(n-kn)) c6)) w7:=by rw [e7] at hb7;rw [e9];exact hb7
  exact ⟨⟨v,rfl,hv.zero⟩,w3,A4,c4,w4,A6,c6,w6,hB13,ho4,hg4,hl4,ho6,hg6,hl6.imp id (fun h=>h.trans (by simp [World.setCell])),h7⟩
end
section
open Go.RowKit
section
variable {X X':Nat→Prop} {w w1 w2 w3 w4:World} {db M1 M2:Nat} {v3 v4:Value} {q q':DQ} {fs:List Nat} {V:Nat→Bool→Value} {C:Nat→Bool→List ByteArray}
theorem FilesV.bound (h:FilesV X w fs V C):FilesV (fun k=>X k∧k<w.heap.size) w fs V C :=
 ⟨h.blk,fun f hf=>⟨h.inX f hf,(h.blk f hf).lt⟩,fun f hf b=>⟨(h.row f hf b).1,fun k hk=>⟨(h.row f hf b).2 k hk,(h.row f hf b).lt hk⟩⟩,h.inj⟩
theorem DiskV.bound (h:DiskV X w db M1 M2 v3 v4 q):DiskV (fun k=>X k∧k<w.heap.size) w db M1 M2 v3 v4 q :=
 ⟨h.blk,h.m1,h.m2,h.ne,⟨h.inX,h.blk.lt⟩,⟨h.inX1,(Array.getElem?_eq_some_iff.1 h.m1).1⟩,⟨h.inX2,(Array.getElem?_eq_some_iff.1 h.m2).1⟩,h.ok1,h.ok2,⟨h.chs.1,fun k hk=>⟨h.chs.2 k hk,h.chs.lt hk⟩⟩,⟨h.wrs.1,fun k hk=>⟨h.wrs.2 k hk,h.wrs.lt hk⟩⟩⟩
theorem strs_append (a b:List ByteArray):strs (a++b)=strs a++strs b:=by simp [strs]
theorem FilesV.grow (h:FilesV X w fs V C) (hb:∀ k,X k→k<w.heap.size) {f:Nat} {b:Bool} (hf:f∈fs) {m:Nat} {v:Value} {l':List ByteArray} (hg:w.grownBy w2 (V f b).ownBlock)
 (ho:w2.ownsRow 0 101 1 v m (strs l')) (hm:m=l'.length) (hv:v.ownBlock=(V f b).ownBlock∨v.ownBlock=some w.heap.size) :
 FilesV (fun k=>X k∨k=w.heap.size) (w2.setCell ⟨f,if b then 1 else 0,none⟩ v) fs (upd V f b v) (upd C f b l'):=by
 subst hm
 refine h.turn hf (fun k hk=>.inl hk) (fun k cs t ht hx hne hk=>(hg.block k (Array.getElem?_eq_some_iff.1 hk).1 hne).trans hk) ⟨ho,fun k hk=>?_⟩ (hv.imp id fun e k hk=>?_)
 ·rcases hv with e | e
  ·rw [e] at hk;exact .inl ((h.row f hf b).2 k hk)
  ·rw [e] at hk;cases hk;exact .inr rfl
 ·rw [e] at hk;cases hk;intro hx;exact absurd (hb _ hx) (Nat.lt_irrefl _)
theorem failQ_room (q:DQ):(failQ q).2.room=q.room:=(failQ_dir q).2.2
theorem Grow_go (hF:FilesV X w fs V C) (h:DiskV X w db M1 M2 v3 v4 q) (hb:∀ k,X k→k<w.heap.size) (ha:q.after≤9223372036854775807) (hfs:∀ x∈q.now,x.f∈fs) (hn:q.now.length≤8) (hc:∀ x∈q.now,(C x.f true).length≤4096)
 {nm:ByteArray} {f:Nat} (ho:openedQ q nm=(0,some f)) (hff:f∈fs) {n:Nat} (h1:(C f true).length≤n) (h2:n≤4096) (h3:(lens C q.now:Int)+n-(C f true).length≤q.room) (hr:q.room≤4096) (hl:(C f false).length≤4096) :
 Calls Tryz.prog 24 #[.pointer (some ⟨db,0,none⟩),.string nm,.int .i64 n] w fun e w'=>Ends w opGrow nm 0 e w' ∧
  Left X w db M1 fs (upd (upd C f false (C f false++List.replicate (n-(C f true).length) zeroS)) f true (C f true++List.replicate (n-(C f true).length) zeroS)) (failQ q).2 w':=by
 obtain ⟨w1,hO,hD,hN⟩:=opened_any h ha nm
 rw [ho] at hO
 have hF1:FilesV X w1 fs V C:=hF.keep (fun _ h=>h) hN.files
 obtain ⟨As,cs,hAs⟩:=(hF1.row f hff false).form
 obtain ⟨An,cn,hAn⟩:=(hF1.row f hff true).form
 have hfb:=hF1.blk f hff
 rw [hAs,hAn] at hfb
 have hos:=(hF1.row f hff false).1
 have hon:=(hF1.row f hff true).1
 rw [hAs] at hos
 rw [hAn] at hon
 have hnow:=failQ_now q
 have hU:∀ W,Below w1.heap.size w1 W→Calls Tryz.prog 74 #[.pointer (some ⟨db,0,none⟩)] W fun e w'=>e=.returned (.int .i64 (lens C q.now))∧Below W.heap.size W w':=fun W hW=>by
  have:=used_any (hF1.keep (fun _ h=>h) (Same.of_below hW)) (hD.below hW) (by rw [hnow];exact hfs) (by rw [hnow];exact hn) (by rw [hnow];exact hc)
  rw [hnow] at this
  exact this
 have hle:lens C q.now≤8*4096:=Nat.le_trans (lens_le hc) (Nat.mul_le_mul_right _ hn)
 have hap:(.slice An (C f true).length cn:Value).ownBlock=none∨(.slice An (C f true).length cn:Value).ownBlock≠(.slice As (C f false).length cs:Value).ownBlock:=by
  rw [←hAs,←hAn]
  cases e:(V f true).ownBlock with
  | none=>exact .inl rfl
  | some k =>
   refine .inr (fun e2=>?_)
   have:=(hF1.inj f hff f hff true false k e e2.symm).2
   cases this
 have hblk:=hD.blk
 refine (Grow_walk hO hblk hfb hU (by omega) h1 h2 (by rw [failQ_room];omega) (by rw [failQ_room];exact hr) (by omega) hos hon hl hap).mono ?_
 rintro e w' ⟨hE,w3,A4,c4,w4,A6,c6,w6,hB3,ho4,hg4,hl4,ho6,hg6,hl6,hB7⟩
 refine ⟨hE,?_⟩
 have hF3:=hF1.keep (fun _ h=>h) (Same.of_below (T:=FT) (X:=X) hB3)
 have hb3:∀ k,X k→k<w3.heap.size:=fun k hk=>by have:=hb k hk;have:=hN.size;have:=hB3.size;omega
 rw [←strs_append] at ho4 ho6
 have hF5:=hF3.grow (b:=false) hb3 hff (by rw [hAs];exact hg4) ho4 (by simp) (by rw [hAs];exact hl4)
 have hF5b:=hF5.bound
 have e4:upd V f false (.slice A4 ((C f false).length+(n-(C f true).length)) c4) f true=V f true:=upd_ne _ _ (by simp)
 have e5:upd C f false (C f false++List.replicate (n-(C f true).length) zeroS) f true=C f true:=upd_ne _ _ (by simp)
 have hF7:=hF5b.grow (b:=true) (fun k hk=>hk.2) hff (by rw [e4,hAn];exact hg6) ho6 (by simp) (by rw [e4,hAn];exact hl6.imp id fun h=>h.trans (by simp [World.setCell]))
 have es4:(w4.setCell ⟨f,0,none⟩ (.slice A4 ((C f false).length+(n-(C f true).length)) c4)).heap.size=w4.heap.size:=by simp [World.setCell]
 have s1:=hN.size
 have s3:=hB3.size
 have s4:=hg4.size
 have s6:=hg6.size
 have e7:∀ u:Value,(w6.setCell ⟨f,1,none⟩ u).heap.size=w6.heap.size:=fun u=>by simp [World.setCell]
 have hB7':∀ {T:Nat→Prop} {Y:Nat→Prop},Same T Y (w6.setCell ⟨f,1,none⟩ (.slice A6 ((C f true).length+(n-(C f true).length)) c6)) w':=fun {T Y}=>Same.of_below (by rw [e7];exact hB7)
 have hmore:∀ k,(((X k∨k=w3.heap.size)∧k<(w4.setCell ⟨f,0,none⟩ (.slice A4 ((C f false).length+(n-(C f true).length)) c4)).heap.size)∨k=(w4.setCell ⟨f,0,none⟩ (.slice A4 ((C f false).length+(n-(C f true).length)) c4)).heap.size)→More X w k:=fun k hk=>by
  rw [es4] at hk
  rcases hk with ⟨hk | hk,_⟩ | hk
  ·exact .inl hk
  ·exact .inr (by omega)
  ·exact .inr (by omega)
 have hXs:∀ k,(V f false).ownBlock=some k→X k:=(hF1.row f hff false).2
 have hXn:∀ k,(V f true).ownBlock=some k→X k:=(hF1.row f hff true).2
 have hff1:X f:=hF1.inX f hff
 have hD3:=hD.below hB3
 have hD5:DiskV X (w4.setCell ⟨f,0,none⟩ (.slice A4 ((C f false).length+(n-(C f true).length)) c4)) db M1 M2 v3 v4 (failQ q).2:=by
  have hf4:Blk w4 f 103 _:=(hg4.block f (hF3.blk f hff).lt (by rw [←hAs];exact blk_apart (hF3.blk f hff) (hF3.row f hff false) (by decide))).trans (hF3.blk f hff)
  refine hD3.keep (fun _ h=>h) ?_ ?_
  ·have s1:Same DT X w3 w4:=by have:=same_grown (T:=DT) (hF3.row f hff false) (by rw [hAs];exact hg4) (by rintro (e | e | e) <;> cases e);exact this
   exact s1.trans (same_set hf4 (by rintro (e | e | e) <;> cases e))
  ·intro k es ck hx hk
   have hq1:=(hg4.block k (Array.getElem?_eq_some_iff.1 hk).1 (by rw [←hAs];exact map_apart hk (hF3.row f hff false))).trans hk
   exact (Below.heap_setCell _ _ _ _ (fun e=>by
    have e':k=f:=e
    subst e'
    unfold Blk at hf4;rw [hf4] at hq1;cases hq1)).trans hq1
 have hD7:DiskV X (w6.setCell ⟨f,1,none⟩ (.slice A6 ((C f true).length+(n-(C f true).length)) c6)) db M1 M2 v3 v4 (failQ q).2:=by
  have hr5:=hF5.row f hff true
  rw [e4,hAn] at hr5
  have hb5:=hF5.blk f hff
  have hf6:Blk w6 f 103 _:=(hg6.block f hb5.lt (blk_apart hb5 hr5 (by decide))).trans hb5
  refine hD5.keep (fun _ h=>h) ?_ ?_
  ·have s1:Same DT X _ w6:=fun k cs t ht hx hk=>(same_grown (T:=DT) (X:=fun k=>X k∨k=w3.heap.size) hr5 hg6 (by rintro (e | e | e) <;> cases e)) k cs t ht (.inl hx) hk
   exact s1.trans (same_set hf6 (by rintro (e | e | e) <;> cases e))
  ·intro k es ck hx hk
   have hq1:=(hg6.block k (Array.getElem?_eq_some_iff.1 hk).1 (map_apart hk hr5)).trans hk
   exact (Below.heap_setCell _ _ _ _ (fun e=>by
    have e':k=f:=e
    subst e'
    unfold Blk at hf6;rw [hf6] at hq1;cases hq1)).trans hq1
 refine ⟨⟨_,_,_,(hD7.keep (fun _=>more_left) hB7' (SameM.of_below (by rw [e7];exact hB7)))⟩,⟨_,(hF7.keep hmore hB7')⟩,?_⟩
 have f1:Fr X w w1:=hN.fr' hD.inX
 have f3:Fr X w w3:=f1.trans (Fr.of_below hB3)
 have f4:Fr X w w4:=f3.grown hg4 (fun k hk=>.inr (hXs k (by rw [hAs];exact hk)))
 have f5:=f4.setCell (p:=⟨f,0,none⟩) (.inr hff1) (.slice A4 ((C f false).length+(n-(C f true).length)) c4)
 have f6:Fr X w w6:=f5.grown hg6 (fun k hk=>.inr (hXn k (by rw [hAn];exact hk)))
 have f7:=f6.setCell (p:=⟨f,1,none⟩) (.inr hff1) (.slice A6 ((C f true).length+(n-(C f true).length)) c6)
 exact f7.trans (Fr.of_below (by rw [e7];exact hB7))
end
end
section
open Go.RowKit
def opWrite:ByteArray:=⟨#[119,114,105,116,101]⟩
set_option maxHeartbeats 4000000 in
set_option maxRecDepth 100000 in
theorem Write_walk0 {w w1 w2:World} {db fb g n k c m cw cp:Nat} {room after code:Int} {armed:Bool} {sf nw ch sv u:Value} {Aw Ap:Option Addr} {nm s:ByteArray} {cur:Array Value} {xs:List Value}
 (hO:Calls Tryz.prog 73 #[.pointer (some ⟨db,0,none⟩),.string nm] w fun e w'=>e=.returned (.tuple #[.pointer (some ⟨fb,0,none⟩),.int .i64 0])∧w'=w1)
 (hf:Blk w1 fb 103 #[sv,.slice (some ⟨g,0,none⟩) k c]) (hg:Blk w1 g 101 cur) (hn:n<k) (hk:k≤4096) (hu:cur[n]?=some u)
 (hd:Blk w1 db 66 (dcells room sf nw ch (.slice Aw m cw) armed after code)) (hown:w1.ownsRow 0 106 3 (.slice Aw m cw) m xs) (hm:m≤1000) (hne:db≠g)
 (hw2:(w1.setCell ⟨g,n,none⟩ (.string s)).drew=w2)
 (cv1:(convert 36 101 (.slice Ap 64 cp)).run Tryz.prog w1.drew=.ok (.string s) w1.drew) (cv2:(convert 36 101 (.slice Ap 64 cp)).run Tryz.prog w2.drew=.ok (.string s) w2.drew) :
 Calls Tryz.prog 25 #[.pointer (some ⟨db,0,none⟩),.string nm,.int .i64 n,.slice Ap 64 cp] w fun e w'=>Ends w opWrite nm 0 e w' ∧
  ∃ A2 c2 w3,w3.ownsRow 0 106 3 (.slice A2 (m+1) c2) (m+1) (xs++wcell fb n s)∧(w2.drew.alloc (.cells #[.pointer (some ⟨fb,0,none⟩),.int .i64 n,.string s] 106)).grownBy w3 (.slice Aw m cw:Value).ownBlock∧((.slice A2 (m+1) c2:Value).ownBlock=(.slice Aw m cw:Value).ownBlock∨(.slice A2 (m+1) c2:Value).ownBlock=some (w2.heap.size+1))∧Below w3.heap.size (w3.setCell ⟨db,4,none⟩ (.slice A2 (m+1) c2)) w':=by
 obtain ⟨i8,hi8,hz8,hz8',hz8''⟩:=info_parts Tryz.info106
 have f1:w1.cell? ⟨fb,1,none⟩=some (.slice (some ⟨g,0,none⟩) k c):=hf.cell 1
 have gn:w1.cell? ⟨g,n,none⟩=some u:=(hg.cell n).trans hu
 have gf:=hg.frozen n
 have d0:decide ((0:Int)≤(n:Int))=true:=by simp
 have d1:decide ((n:Int)<(k:Int))=true:=by simpa using hn
 have hS:=isSector_any (n:=(n:Int)) hf
 rw [d0,d1] at hS
 have i0:(0:Int)≤(n:Int):=by omega
 have i1:(n:Int)<(k:Int):=by omega
 have HW:=Lib.hid hw2
 have hfd:Blk w1.drew fb 103 _:=hf
 have bd2:Blk w2 db 66 (dcells room sf nw ch (.slice Aw m cw) armed after code):=by rw [←hw2];exact Blk.drew (Blk.far hd hne _)
 have ow2:w2.ownsRow 0 106 3 (.slice Aw m cw) m xs:=by
  rw [←hw2]
  refine ⟨hown.1,hown.2.imp id ?_⟩
  rintro ⟨g',cap,cur',e1,e2,e3,e4⟩
  refine ⟨g',cap,cur',e1,e2,(Below.heap_setCell _ _ _ _ (fun e=>?_)).trans e3,e4⟩
  have e':g'=g:=e
  subst e'
  unfold Blk at hg
  rw [hg] at e3
  cases e3
 have dc4:w2.cell? ⟨db,4,none⟩=some (.slice Aw m cw):=bd2.cell 4
 have dc4':(w2.alloc (.cells #[.pointer (some ⟨fb,0,none⟩),.int .i64 n,.string s] 106)).cell? ⟨db,4,none⟩=some (.slice Aw m cw):=(bd2.alloc _).cell 4
 clear hw2
 go_enter Tryz.func25,Tryz.ntmps25
 go_wp2_with (first
  | (go_at_call 73;refine hO.mono ?_;rintro e w9 ⟨rfl,h9⟩;obtain rfl:w1=w9:=h9.symm)
  | (go_at_call 76;refine hS.mono ?_;rintro e w8 ⟨rfl,rfl⟩))
 refine wp_region_tail 8 (by kernel_rfl) (by kernel_rfl) ?_
 repeat still_step
 refine wpStill_nil ?_
 go_wp2
 rw [HW.out]
 go_region_law (first
  | (refine step_append_any _ (by rfl) (.tmp 29) (.tmp 35) 64 (by rfl) 0 106 i8 _ 3 32 Tryz.underlying64 hi8 hz8 hz8' hz8'' rfl (by omega) (.slice Aw m cw) m xs (by rfl) ((show w2.drew.ownsRow 0 106 3 (.slice Aw m cw) m xs from ow2).alloc _) _ _ 1 1 (wcell fb n s) (by rfl) (reads_three (Blk.new w2.drew 106 _)) wcell_one (by simp only [maxLen];omega) (by omega) (by simp) ?_;intro v3 w3 ho3 hg3 hl3;obtain ⟨A3,c3,rfl⟩:=own_formN ho3;have bd3:Blk w3 db 66 (dcells room sf nw ch (.slice Aw m cw) armed after code):=blk_otherN ((show Blk w2.drew db 66 _ from bd2).alloc _) hg3 ((show w2.drew.ownsRow 0 106 3 (.slice Aw m cw) m xs from ow2).alloc _) (by decide);have k4:w3.cell? ⟨db,4,none⟩=some (.slice Aw m cw):=bd3.cell 4;have l4:=bd3.frozen 4))
 all_goals
  go_wp2_with (go_at_call 29;refine (fault_any _ _ _ _).mono ?_;rintro e w7 ⟨⟨v,rfl,hv⟩,hb7⟩)
  go_ret
  exact ⟨⟨v,rfl,hv.zero⟩,_,_,_,ho3,hg3,by simpa using hl3,by simpa [World.setCell] using hb7⟩
section
variable {X X':Nat→Prop} {w w1 w2 w3 w4:World} {db M1 M2:Nat} {v3 v4:Value} {q q':DQ} {fs:List Nat} {V:Nat→Bool→Value} {C:Nat→Bool→List ByteArray}
theorem sameM_set {g o:Nat} {t:TypeId} {cs:Array Value} {u:Value} (hb:Blk w g t cs):SameM X w (w.setCell ⟨g,o,none⟩ u):=fun k es ck hx hk=>(Below.heap_setCell _ _ _ _ (fun e=>by
 have e':k=g:=e
 subst e'
 unfold Blk at hb;rw [hb] at hk;cases hk)).trans hk
theorem Write_go (hF:FilesV X w fs V C) (h:DiskV X w db M1 M2 v3 v4 q) (ha:q.after≤9223372036854775807)
 {nm:ByteArray} {f:Nat} (ho:openedQ q nm=(0,some f)) (hff:f∈fs) {n:Nat} (hn:n<(C f true).length) (hl:(C f true).length≤4096) {Ap:Option Addr} {cp:Nat} {s:ByteArray}
 (hcv:∀ W,Fr X w W→(convert 36 101 (.slice Ap 64 cp)).run Tryz.prog W=.ok (.string s) W) (hm:q.wrs.length≤1000) :
 Calls Tryz.prog 25 #[.pointer (some ⟨db,0,none⟩),.string nm,.int .i64 n,.slice Ap 64 cp] w fun e w'=>Ends w opWrite nm 0 e w' ∧
  Left X w db M1 fs (upd C f true ((C f true).set n s)) {(failQ q).2 with wrs:=q.wrs++[⟨f,n,s⟩]} w':=by
 obtain ⟨w1,hO,hD,hN⟩:=opened_any h ha nm
 rw [ho] at hO
 have hF1:FilesV X w1 fs V C:=hF.keep (fun _ h=>h) hN.files
 have f1:Fr X w w1:=hN.fr' hD.inX
 obtain ⟨g,c,cur,hV,hXg,hg,hsz,hcur⟩:=(hF1.row f hff true).row (by omega)
 have hfb:=hF1.blk f hff
 rw [hV] at hfb
 have hu:cur[n]?=some (.string ((C f true)[n]'hn)):=hcur n _ (by simp [strs,hn])
 obtain ⟨Aw,cw,hv4⟩:=hD.wrs.form
 have hwr:=failQ_wrs q
 rw [hwr] at hv4
 have hdb:=hD.blk
 rw [hv4] at hdb
 have hne:db≠g:=fun e=>by
  subst e
  unfold Blk at hg hdb
  rw [hdb] at hg;cases hg
 have hown:=hD.wrs
 rw [hwr,hv4] at hown
 have fW:Fr X w (w1.setCell ⟨g,n,none⟩ (.string s)):=f1.setCell (p:=⟨g,n,none⟩) (.inr hXg) _
 refine (Write_walk0 (w2:=(w1.setCell ⟨g,n,none⟩ (.string s)).drew) hO hfb hg hn hl hu hdb hown.1 hm hne rfl (hcv _ f1.drew) (hcv _ fW.drew.drew)).mono ?_
 rintro e w' ⟨hE,A2,c2,w3,ho3,hg3,hl3,hB⟩
 refine ⟨hE,?_⟩
 have hF2:=hF1.set hff hV hn s
 have hD2:DiskV X (w1.setCell ⟨g,n,none⟩ (.string s)) db M1 M2 v3 v4 (failQ q).2:=hD.keep (fun _ h=>h) (same_set hg (by rintro (e | e | e) <;> cases e)) (sameM_set hg)
 have hD3:DiskV X (w1.setCell ⟨g,n,none⟩ (.string s)).drew.drew db M1 M2 v3 v4 (failQ q).2:=hD2.keep (fun _ h=>h) Same.refl (fun _ _ _ _ h=>h)
 have hD4:=hD3.below ((Below.refl _ _).alloc (Nat.le_refl _) (.cells #[.pointer (some ⟨f,0,none⟩),.int .i64 n,.string s] 106))
 rw [hv4] at hD4
 have s1:=hN.size
 have es:(w1.setCell ⟨g,n,none⟩ (.string s)).drew.heap.size=w1.heap.size:=by show (w1.setCell ⟨g,n,none⟩ (.string s)).heap.size=_;simp [World.setCell]
 rw [es] at hl3
 have hr:RowX (More X w) w3 106 3 (.slice A2 (q.wrs.length+1) c2) (q.wrs++[(⟨f,n,s⟩:Wr)]).length (wcells (q.wrs++[(⟨f,n,s⟩:Wr)])):=by
  refine ⟨?_,fun k hk=>?_⟩
  ·have e1:wcells (q.wrs++[(⟨f,n,s⟩:Wr)])=wcells q.wrs++wcell f n s:=by rw [wcells_append];simp [wcells,Wr.cells]
   rw [e1,List.length_append]
   exact ho3
  ·rcases hl3 with hl | hl
   ·rw [hl] at hk;exact .inl (hown.2 k hk)
   ·rw [hl] at hk;cases hk;exact .inr (by omega)
 have hD5:=hD4.wrs4 (X':=More X w) (fun k hk=>.inl hk) hg3 hr
 have e3:(w3.setCell ⟨db,4,none⟩ (.slice A2 (q.wrs.length+1) c2)).heap.size=w3.heap.size:=by simp [World.setCell]
 have hB':Below (w3.setCell ⟨db,4,none⟩ (.slice A2 (q.wrs.length+1) c2)).heap.size (w3.setCell ⟨db,4,none⟩ (.slice A2 (q.wrs.length+1) c2)) w':=by rw [e3];exact hB
 refine ⟨⟨_,_,_,hD5.below hB'⟩,⟨_,hF2.keep (fun _=>more_left) ?_⟩,?_⟩
 ·have s2:Same FT X (w1.setCell ⟨g,n,none⟩ (.string s)).drew.drew ((w1.setCell ⟨g,n,none⟩ (.string s)).drew.drew.alloc (.cells #[.pointer (some ⟨f,0,none⟩),.int .i64 n,.string s] 106)):=Same.of_below ((Below.refl _ _).alloc (Nat.le_refl _) _)
  have s2':Same FT X (w1.setCell ⟨g,n,none⟩ (.string s)) ((w1.setCell ⟨g,n,none⟩ (.string s)).drew.drew.alloc (.cells #[.pointer (some ⟨f,0,none⟩),.int .i64 n,.string s] 106)):=s2
  have s3:Same FT X _ w3:=same_grown hD4.wrs hg3 (by rintro (e | e) <;> cases e)
  have hb3:Blk w3 db 66 _:=(hg3.block db hD4.blk.lt (blk_apart hD4.blk hD4.wrs (by decide))).trans hD4.blk
  exact ((s2'.trans s3).trans (same_set hb3 (by rintro (e | e) <;> cases e))).trans (Same.of_below hB')
 ·have f3:Fr X w w3:=((fW.drew.drew.alloc (.cells #[.pointer (some ⟨f,0,none⟩),.int .i64 n,.string s] 106))).grown hg3 (fun k hk=>.inr (hown.2 k hk))
  exact (f3.setCell (p:=⟨db,4,none⟩) (.inr hD.inX) _).trans (Fr.of_below hB')
end
end
section
open Go.RowKit
def opRead:ByteArray:=⟨#[114,101,97,100]⟩
def StrAt (W:World) (v:Value) (s:ByteArray):Prop:=∃ g c,v=.slice (some ⟨g,0,none⟩) s.size c∧g<W.heap.size∧∀ j,j<s.size→W.cell? ⟨g,j,none⟩=some (.int .u8 (s.data.toList.getD j 0).toNat)
theorem StrAt.conv {W:World} {v:Value} {s:ByteArray} (h:StrAt W v s) {t:TypeId} (ht:Tryz.prog.underlying t=some .string):(convert 36 t v).run Tryz.prog W=.ok (.string s) W:=by
 obtain ⟨g,c,rfl,hg,hc⟩:=h
 have h1:=run_convert_bytes_back (P:=Tryz.prog) W 36 t 5 ⟨g,0,none⟩ c s.data.toList Tryz.underlying36 Tryz.underlying5 ht (fun j hj=>by
  have e:(⟨g,0,none⟩:Addr).add j=⟨g,j,none⟩:=by unfold Addr.add;split <;> simp_all
  rw [e,hc j (by simpa using hj)]
  rw [List.getD_eq_getElem?_getD,List.getElem?_eq_getElem hj]
  rfl)
 have e:s.data.toList.length=s.size:=by simp
 rw [e] at h1
 exact h1
theorem below_bytes (w:World) (s:ByteArray):Below w.heap.size w (Go.Lib.bytesWorld w 5 s) :=
 ⟨by simp [Go.Lib.bytesWorld,World.freeze];rfl,by simp [Go.Lib.bytesWorld,World.freeze],by simp [Go.Lib.bytesWorld,World.freeze];rfl,by rw [Go.Lib.bytesWorld_size];omega,fun k hk=>Go.Lib.bytesWorld_at_old w 5 s k hk⟩
theorem to_bytes (w:World) (s:ByteArray):∃ v w2,(convert 101 36 (.string s)).run Tryz.prog w=.ok v w2∧StrAt w2 v s∧Below w.heap.size w w2 :=
 ⟨_,_,Go.Lib.run_convert_string_bytes w 101 36 5 s Tryz.underlying101 Tryz.underlying36 Tryz.underlying5,⟨_,_,rfl,by rw [Go.Lib.bytesWorld_size];omega,fun j hj=>Go.Lib.bytesWorld_cell w 5 s j hj⟩,below_bytes w s⟩
section
variable {X X':Nat→Prop} {w w1 w2 w3 w4:World} {db M1 M2:Nat} {v3 v4:Value} {q q':DQ} {fs:List Nat} {V:Nat→Bool→Value} {C:Nat→Bool→List ByteArray}
theorem Read_go (hF:FilesV X w fs V C) (h:DiskV X w db M1 M2 v3 v4 q) (ha:q.after≤9223372036854775807)
 {nm:ByteArray} {f:Nat} (ho:openedQ q nm=(0,some f)) (hff:f∈fs) {n:Nat} {s:ByteArray} (hs:(C f true)[n]?=some s) :
 Calls Tryz.prog 26 #[.pointer (some ⟨db,0,none⟩),.string nm,.int .i64 n] w fun e w'=>(∃ v,e=.returned (.tuple #[v,.nilIface])∧StrAt w' v s)∧Left X w db M1 fs C (failQ q).2 w':=by
 obtain ⟨w1,hO,hD,hN⟩:=opened_any h ha nm
 rw [ho] at hO
 have hF1:FilesV X w1 fs V C:=hF.keep (fun _ h=>h) hN.files
 have hn:=(List.getElem?_eq_some_iff.1 hs).1
 obtain ⟨g,c,cur,hV,hXg,hg,hsz,hcur⟩:=(hF1.row f hff true).row (by omega)
 have hfb:=hF1.blk f hff
 rw [hV] at hfb
 have hu:cur[n]?=some (.string s):=hcur n _ (by simp [strs,hs])
 obtain ⟨v,w2,hcv,hst,hB⟩:=to_bytes w1 s
 refine (Read_ok hO hfb hg hn hu hcv).mono ?_
 rintro e w' ⟨rfl,rfl⟩
 exact ⟨⟨v,rfl,hst⟩,left_near hD hF hN hB⟩
end
end
section
open Go.RowKit
def others (fb:Nat) (l:List Wr):List Wr:=l.filter fun x=>decide (x.f≠fb)
theorem others_step {fb m:Nat} {l:List Wr} {y:Wr} (hy:l[m]?=some y):others fb (l.take (m+1))=others fb (l.take m)++(if y.f=fb then [] else [y]):=by
 unfold others
 rw [List.take_add_one,hy,List.filter_append]
 congr 1
 by_cases h:y.f=fb <;> simp [h]
theorem zeroWr (w:World):(zeroValue 106).run Tryz.prog w=.ok (.agg #[.pointer none,.int .i64 0,.string ⟨#[]⟩]) w:=by kernel_rfl
theorem run_clear_wr (W:World) (ty:TypeId) {g k n c:Nat} {cur:Array Value} (hg:Blk W g 106 cur) (hk:(k+n)*3≤cur.size) (hn:0<n) :
 ∃ cs:List Value,cs.length=n*3∧(Builtin.clear_ #[64] ty #[.slice (some ⟨g,k*3,none⟩) n c]).run Tryz.prog W=.ok (.tuple #[]) (W.setRow g (cur.toList.take (k*3)++cs++cur.toList.drop (k*3+n*3)).toArray):=by
 obtain ⟨cs,hcs⟩:∃ cs,(Builtin.zeroCells (Value.agg #[.pointer none,.int .i64 0,.string ⟨#[]⟩]).cells n).toList=cs:=⟨_,rfl⟩
 have hlen:cs.length=n*3:=by rw [←hcs,Array.length_toList,size_zeroCells];rfl
 refine ⟨cs,hlen,?_⟩
 have h1:∀ v∈cs,v.oneCell'=true:=by
  intro v hv
  rw [←hcs] at hv
  simp only [Builtin.zeroCells,Array.toList_map,List.mem_map] at hv
  obtain ⟨i,_,rfl⟩:=hv
  have h3:i % 3<3:=Nat.mod_lt _ (by omega)
  show (#[Value.pointer none,Value.int .i64 0,Value.string ⟨#[]⟩][i % 3]!).oneCell'=true
  match i % 3,h3 with
  | 0,_=>rfl
  | 1,_=>rfl
  | 2,_=>rfl
 have hst:=run_storeCells_at Tryz.prog g (k*3) 106 cs 0 cur W hg (by omega) h1
 simp only [Nat.add_zero] at hst
 rw [hlen] at hst
 obtain ⟨m,rfl⟩:∃ m,n=m+1:=⟨n-1,by omega⟩
 simp [Builtin.clear_,run_underlying Tryz.underlying64,zeroWr,hcs,hst]
def set3 (cur:Array Value) (p:Nat) (a b c:Value):Array Value:=((cur.setIfInBounds p a).setIfInBounds (p+1) b).setIfInBounds (p+2) c
theorem set3_at (cur:Array Value) (p:Nat) (a b c:Value) (h:p+3≤cur.size) (t:Nat):(set3 cur p a b c)[t]?=if t=p then some a else if t=p+1 then some b else if t=p+2 then some c else cur[t]?:=by
 unfold set3
 simp only [Array.getElem?_setIfInBounds,Array.size_setIfInBounds]
 by_cases h2:t=p+2
 ·subst h2;simp;omega
 ·rw [if_neg (fun e=>h2 e.symm)]
  by_cases h1:t=p+1
  ·subst h1;simp;omega
  ·rw [if_neg (fun e=>h1 e.symm)]
   by_cases h0:t=p
   ·subst h0;simp;omega
   ·rw [if_neg (fun e=>h0 e.symm),if_neg h0,if_neg h1,if_neg h2]
theorem set3_wr {cur:Array Value} {o:List Wr} {y:Wr} (h:o.length*3+3≤cur.size) (hc:∀ (t:Nat) (u:Value),(wcells o)[t]?=some u→cur[t]?=some u) :
 ∀ (t:Nat) (u:Value),(wcells (o++[y]))[t]?=some u→(set3 cur (o.length*3) (.pointer (some ⟨y.f,0,none⟩)) (.int .i64 y.n) (.string y.s))[t]?=some u:=by
 intro t u hu
 rw [set3_at _ _ _ _ _ h]
 rw [wcells_append,List.getElem?_append,wcells_len] at hu
 by_cases ht:t<o.length*3
 ·rw [if_pos ht] at hu
  rw [if_neg (by omega),if_neg (by omega),if_neg (by omega)]
  exact hc t u hu
 ·rw [if_neg ht] at hu
  have e:wcells [y]=[.pointer (some ⟨y.f,0,none⟩),.int .i64 y.n,.string y.s]:=by simp [wcells,Wr.cells,wcell]
  rw [e] at hu
  have hlt:=(List.getElem?_eq_some_iff.1 hu).1
  have hlt3:t-o.length*3<3:=hlt
  obtain ⟨d,hd⟩:∃ d,t-o.length*3=d:=⟨_,rfl⟩
  rw [hd] at hu hlt3
  match d,hlt3 with
  | 0,_=>rw [if_pos (by omega)];exact hu
  | 1,_=>rw [if_neg (by omega),if_pos (by omega)];exact hu
  | 2,_=>rw [if_neg (by omega),if_neg (by omega),if_pos (by omega)];exact hu
def DelRel (W:World) (g:Nat) (fb:Nat) (l:List Wr) (cap:Nat) (i j:Value) (wr:World):Prop :=
 ∃ (k m:Nat) (cur:Array Value),i=.int .i64 k∧j=.int .i64 m∧m≤l.length∧k<m∧k=(others fb (l.take m)).length∧Blk wr g 106 cur∧cur.size=cap∧(∀ (t:Nat) (u:Value),(wcells (others fb (l.take m)))[t]?=some u→cur[t]?=some u) ∧
  (∀ (t:Nat) (u:Value),m*3≤t→(wcells l)[t]?=some u→cur[t]?=some u)∧W.grownBy wr (some g)
set_option maxHeartbeats 4000000 in
set_option maxRecDepth 100000 in
theorem DeleteFunc_some {X:Nat→Prop} {w:World} {pf fb g c:Nat} {l:List Wr} {cur0:Array Value} (hXg:X g) (hg0:Blk w g 106 cur0) (hc0:∀ (t:Nat) (u:Value),(wcells l)[t]?=some u→cur0[t]?=some u) (hc:cur0.size=c*3) (hlc:l.length≤c) (hcm:c≤maxLen) (hl:l.length≤1000) (hpf:pf≠g) (hp:w.cell? ⟨pf,0,none⟩=some (.pointer (some ⟨fb,0,none⟩)))
 (hown:w.ownsRow 0 106 3 (.slice (some ⟨g,0,none⟩) l.length c) l.length (wcells l))
 (hfs:∀ y∈l,y.f≠g∧∃ cf tf,w.heap[y.f]?=some (.cells cf tf (0,0))) (hfb:fb≠g∧∃ cf tf,w.heap[fb]?=some (.cells cf tf (0,0))) {i:Nat} (hi:firstI fb l=(i:Int)) (hil:i<l.length) (hpre:∀ j y,j<i→l[j]?=some y→y.f≠fb) (hat:∀ y,l[i]?=some y→y.f=fb) :
 Calls Tryz.prog 83 #[.slice (some ⟨g,0,none⟩) l.length c,.func (.func 84) #[] #[.pointer (some ⟨pf,0,none⟩)]] w fun e w'=>∃ v',e=.returned v'∧RowX X w' 106 3 v' (others fb l).length (wcells (others fb l))∧v'.ownBlock=some g∧w.grownBy w' (some g):=by
 have hI:=IndexFunc_any hown hl hp (fun y hy=>(hfs y hy).2) hfb.2
 rw [hi] at hI
 go_enter Tryz.func83,Tryz.ntmps83
 go_wp2_with (go_at_call 104;refine hI.mono ?_;rintro e w1 ⟨rfl,hB1⟩)
 go_loopw [5,6] (fun i j wr=>DelRel w g fb l (c*3) i j wr) (fun _ j _=>l.length-(intOf j).toNat)
 case atStart =>
  obtain ⟨y,hy⟩:∃ y,l[i]?=some y:=⟨_,List.getElem?_eq_getElem hil⟩
  have ho:others fb (l.take i)=l.take i:=by
   unfold others
   rw [List.filter_eq_self]
   intro x hx
   obtain ⟨j,hj,he⟩:=List.getElem_of_mem hx
   rw [List.length_take] at hj
   have hxl:l[j]?=some x:=by
    rw [List.getElem_take] at he
    rw [List.getElem?_eq_getElem (by omega),he]
   simpa using hpre j x (by omega) hxl
  have ho1:others fb (l.take (i+1))=l.take i:=by rw [others_step hy,if_pos (hat y hy),List.append_nil,ho]
  have hb1:Blk w1 g 106 cur0:=(hB1.block g hg0.lt).trans hg0
  refine ⟨i,i+1,cur0,rfl,by go_num,by omega,by omega,by rw [ho1,List.length_take];omega,hb1,hc,fun t u hu=>?_,fun t u _ hu=>hc0 t u hu,⟨hB1.os,hB1.tape,hB1.output,hB1.size,fun k hk _=>hB1.block k hk⟩⟩
  rw [ho1] at hu
  refine hc0 t u ?_
  have e:l=l.take i++l.drop i:=(List.take_append_drop i l).symm
  rw [e,wcells_append,List.getElem?_append_left (List.getElem?_eq_some_iff.1 hu).1]
  exact hu
 case round =>
  obtain ⟨k,m,cur,rfl,rfl,hm,hkm,hkl,hg,hsz,hc1,hc2,hG⟩:=hrel
  have HC1:=Lib.hid hc1
  have HC2:=Lib.hid hc2
  have HKL:=Lib.hid hkl
  by_cases hlt:m<l.length
  ·have d1:decide (m<l.length)=true:=by simpa using hlt
   obtain ⟨y,hy⟩:∃ y,l[m]?=some y:=⟨_,List.getElem?_eq_getElem hlt⟩
   have e0:wr.cell? ⟨g,m*3,none⟩=some (.pointer (some ⟨y.f,0,none⟩)):=(hg.cell _).trans (hc2 (m*3) _ (by omega) ((wcells_at hy 0 (by omega)).trans rfl))
   have e1:wr.cell? ⟨g,m*3+1,none⟩=some (.int .i64 y.n):=(hg.cell _).trans (hc2 (m*3+1) _ (by omega) ((wcells_at hy 1 (by omega)).trans rfl))
   have e2:wr.cell? ⟨g,m*3+2,none⟩=some (.string y.s):=(hg.cell _).trans (hc2 (m*3+2) _ (by omega) ((wcells_at hy 2 (by omega)).trans rfl))
   clear hc1 hc2 hkl
   have i0:(0:Int)≤(m:Int):=by omega
   have i1:(m:Int)<(l.length:Int):=by omega
   have j0:(0:Int)≤(k:Int):=by omega
   have j1:(k:Int)<(l.length:Int):=by omega
   have hyl:=hfs y (List.mem_of_getElem? hy)
   obtain ⟨hyg,cf,tf,hyf⟩:=hyl
   obtain ⟨hfg,cg,tg,hfb⟩:=hfb
   have hyf1:wr.heap[y.f]?=some (.cells cf tf (0,0)):=(hG.block _ (Array.getElem?_eq_some_iff.1 hyf).1 (by simpa using hyg)).trans hyf
   have hfb1:wr.heap[fb]?=some (.cells cg tg (0,0)):=(hG.block _ (Array.getElem?_eq_some_iff.1 hfb).1 (by simpa using hfg)).trans hfb
   have hp1:wr.cell? ⟨pf,0,none⟩=some (.pointer (some ⟨fb,0,none⟩)):=(World.cell?_of_block (w:=w) (hG.block pf (World.block_lt_of_cell? w _ hp) (by simpa using hpf))).trans hp
   obtain ⟨W,hW⟩:∃ W,wr.alloc (.cells #[.pointer (some ⟨y.f,0,none⟩),.int .i64 y.n,.string y.s] 106)=W:=⟨_,rfl⟩
   have hBW:Below wr.heap.size wr W:=hW ▸ (Below.refl _ _).alloc (Nat.le_refl _) _
   have hI2:=isOf (w:=W) y ((hBW.cell (p:=⟨pf,0,none⟩) (World.block_lt_of_cell? wr _ hp1)).trans hp1) ((hBW.block _ (Array.getElem?_eq_some_iff.1 hyf1).1).trans hyf1) ((hBW.block _ (Array.getElem?_eq_some_iff.1 hfb1).1).trans hfb1)
   have bv:Blk W wr.heap.size 106 #[.pointer (some ⟨y.f,0,none⟩),.int .i64 y.n,.string y.s]:=hW ▸ Blk.new wr _ _
   obtain ⟨W2,hW2⟩:∃ W2,W.alloc (.cells #[.pointer (some ⟨y.f,0,none⟩),.int .i64 y.n,.string y.s] 106)=W2:=⟨_,rfl⟩
   have hBW2:Below wr.heap.size wr W2:=hW2 ▸ hBW.alloc hBW.size _
   have bv2:Blk W2 wr.heap.size 106 #[.pointer (some ⟨y.f,0,none⟩),.int .i64 y.n,.string y.s]:=hW2 ▸ bv.alloc _
   have hg2:Blk W2 g 106 cur:=(hBW2.block g hg.lt).trans hg
   rw [hW2] at hI2
   have b0:=bv.cell 0
   have b1:=bv.cell 1
   have b2:=bv.cell 2
   have x0:=bv2.cell 0
   have x1:=bv2.cell 1
   have x2:=bv2.cell 2
   obtain ⟨u0,hu0⟩:∃ u0,cur[k*3]?=some u0:=⟨_,Array.getElem?_eq_getElem (by omega)⟩
   obtain ⟨u1,hu1⟩:∃ u1,cur[k*3+1]?=some u1:=⟨_,Array.getElem?_eq_getElem (by omega)⟩
   obtain ⟨u2,hu2⟩:∃ u2,cur[k*3+2]?=some u2:=⟨_,Array.getElem?_eq_getElem (by omega)⟩
   have y0:W2.cell? ⟨g,k*3,none⟩=some u0:=(hg2.cell _).trans hu0
   have y1:W2.cell? ⟨g,k*3+1,none⟩=some u1:=(hg2.cell _).trans hu1
   have y2:W2.cell? ⟨g,k*3+2,none⟩=some u2:=(hg2.cell _).trans hu2
   have z0:=hg2.frozen (k*3)
   have z1:=hg2.frozen (k*3+1)
   have z2:=hg2.frozen (k*3+2)
   have hst:=others_step (fb:=fb) hy
   have HST:=Lib.hid hst
   have HY:=Lib.hid hy
   clear hst hu0 hu1 hu2 hy
   by_cases hq:y.f=fb
   ·rw [decide_eq_true hq] at hI2
    have HQ:=Lib.hid hq
    clear hq
    go_wp2_with (go_at_call 84;refine hI2.mono ?_;rintro e w9 ⟨rfl,rfl⟩)
    go_roundw
    case rel =>
     have e9:others fb (l.take (m+1))=others fb (l.take m):=by rw [HST.out,if_pos HQ.out,List.append_nil]
     refine ⟨_,_,_,_,_,_,_,_,_,_,_,_,_,_,_,_,_,_,_,_,_,_,_,?_,rfl⟩
     exact ⟨k,m+1,cur,rfl,by go_num,by omega,by omega,by rw [e9];exact HKL.out,hg2,hsz,by rw [e9];exact HC1.out,fun t u ht hu=>HC2.out t u (by omega) hu,⟨hBW2.os.trans hG.os,hBW2.tape.trans hG.tape,hBW2.output.trans hG.output,Nat.le_trans hG.size hBW2.size,fun j hj hne=>(hBW2.block j (Nat.lt_of_lt_of_le hj hG.size)).trans (hG.block j hj hne)⟩⟩
    case measure=>simp [intOf];omega
   ·rw [decide_eq_false hq] at hI2
    go_wp2_with (go_at_call 84;refine hI2.mono ?_;rintro e w9 ⟨rfl,rfl⟩)
    go_roundw
    case rel =>
     have e9:others fb (l.take (m+1))=others fb (l.take m)++[y]:=by rw [HST.out,if_neg hq]
     have hgn:Blk (((w9.setCell ⟨g,k*3,none⟩ (.pointer (some ⟨y.f,0,none⟩))).setCell ⟨g,k*3+1,none⟩ (.int .i64 y.n)).setCell ⟨g,k*3+2,none⟩ (.string y.s)) g 106 (set3 cur (k*3) (.pointer (some ⟨y.f,0,none⟩)) (.int .i64 y.n) (.string y.s)):=((hg2.set_ (k*3) (.pointer (some ⟨y.f,0,none⟩))).set_ (k*3+1) (.int .i64 y.n)).set_ (k*3+2) (.string y.s)
     refine ⟨_,_,_,_,_,_,_,_,_,_,_,_,_,_,_,_,_,_,_,_,_,_,_,?_,rfl⟩
     have hko:=HKL.out
     refine ⟨k+1,m+1,_,by go_num,by go_num,by omega,by omega,by rw [e9,List.length_append];simp;omega,hgn,by unfold set3;simpa using hsz,?_,fun t u ht hu=>?_,?_⟩
     ·rw [e9]
      have:=set3_wr (cur:=cur) (o:=others fb (l.take m)) (y:=y) (by omega) HC1.out
      rw [←hko] at this
      exact this
     ·rw [set3_at _ _ _ _ _ (by omega),if_neg (by omega),if_neg (by omega),if_neg (by omega)]
      exact HC2.out t u (by omega) hu
     ·refine ⟨hBW2.os.trans hG.os,hBW2.tape.trans hG.tape,hBW2.output.trans hG.output,by simpa [World.setCell] using Nat.le_trans hG.size hBW2.size,fun j hj hne=>?_⟩
      have hne':j≠g:=fun e=>hne (by rw [e])
      exact (Below.heap_setCell _ _ _ _ hne').trans ((Below.heap_setCell _ _ _ _ hne').trans ((Below.heap_setCell _ _ _ _ hne').trans ((hBW2.block j (Nat.lt_of_lt_of_le hj hG.size)).trans (hG.block j hj hne))))
    case measure=>simp [intOf];omega
  ·obtain rfl:m=l.length:=by omega
   have d1:decide (l.length<l.length)=false:=by simp
   have hko:=hkl
   rw [List.take_length] at hc1 hko
   have HC:=Lib.hid hc1
   have HKO:=Lib.hid hko
   clear hko
   obtain ⟨cs,hcs,hcl⟩:=run_clear_wr wr 0 (k:=k) (n:=l.length-k) (c:=c-k) hg (by omega) (by omega)
   have hclr:∀ ty,(Builtin.clear_ #[64] ty #[.slice (some ⟨g,k*3,none⟩) (l.length-k) (c-k)]).run Tryz.prog wr=_:=fun ty=>hcl
   have hkc:¬ c=k:=by omega
   have j0:(0:Int)≤(k:Int):=by omega
   have j1:(k:Int)≤(l.length:Int):=by omega
   have j2:(k:Int)≤(c:Int):=by omega
   clear hc1 hc2 HC1 HC2 HKL hkl hcl
   go_wp2
   go_ret
   have hco:=HC.out
   have hko:=HKO.out
   rw [←hko]
   refine ⟨_,rfl,⟨⟨by rw [wcells_len,hko],.inr ⟨g,c,(cur.toList.take (k*3)++cs++cur.toList.drop (k*3+(l.length-k)*3)).toArray,rfl,Nat.zero_le _,?_,by omega,hcm,?_,?_⟩⟩,fun j hj=>by cases hj;exact hXg⟩,rfl,?_⟩
   ·have hg':=hg
    unfold Blk at hg'
    simp [World.setRow,hg',Array.getElem?_modify]
   ·simp [hcs];omega
   ·have hl1:(cur.toList.take (k*3)).length=k*3:=by simp;omega
    rw [List.append_assoc,List.take_append_of_le_length (by omega),List.take_of_length_le (by omega)]
    apply List.ext_getElem?
    intro t
    rw [List.getElem?_take]
    by_cases ht:t<k*3
    ·rw [if_pos ht]
     have hlt2:t<(wcells (others fb l)).length:=by rw [wcells_len,←hko];exact ht
     have h1:=hco t _ (List.getElem?_eq_getElem hlt2)
     rw [List.getElem?_eq_getElem hlt2,←h1]
     simp
    ·rw [if_neg ht,List.getElem?_eq_none (by rw [wcells_len,←hko];omega)]
   ·refine ⟨hG.os,hG.tape,hG.output,by simpa [World.setRow] using hG.size,fun j hj hne=>?_⟩
    have hne':g≠j:=fun e=>hne (by rw [e])
    have e:∀ A,(wr.setRow g A).heap[j]?=wr.heap[j]?:=fun A=>by
     simp only [World.setRow]
     rw [Array.getElem?_modify,if_neg hne']
    exact (e _).trans (hG.block j hj hne)
end
section
open Go.RowKit
def opSync:ByteArray:=⟨#[115,121,110,99]⟩
set_option maxHeartbeats 1000000 in
set_option maxRecDepth 100000 in
theorem Clone_some {B:Nat} (ad:Addr) (c:Nat) (l:List ByteArray) (w:World) (hr:Reads w B 1 (some ad) l.length (strs l)) (hB:B≤w.heap.size) (hl:l.length≤5000) :
 Calls Tryz.prog 53 #[.slice (some ad) l.length c] w fun e w'=>∃ A' c',e=.returned (.slice A' l.length c')∧w'.ownsRow w.heap.size 101 1 (.slice A' l.length c') l.length (strs l)∧Below w.heap.size w w':=by
 obtain ⟨i0,hi0,hz0,hz1,hz2⟩:=info_parts Tryz.info101
 have hnil:∀ W:World,(binOp .eql 99 (.slice (some ad) l.length c) (.slice none 0 0)).run Tryz.prog W=.ok (.bool false) W:=fun W=>(by first | exact Lib.run_eql_slice_nil W 99 101 _ _ _ _ _ Tryz.underlying99 | exact Lib.run_eql_slice_nil W 99 101 _ _ _ _ Tryz.underlying99)
 go_enter Tryz.func53,Tryz.ntmps53
 go_wp2_with (at_builtin;refine wpList_append_any _ rfl (.tmp 5) (.tmp 6) _ rfl w.heap.size 101 i0 _ 1 16 Tryz.underlying99 hi0 hz0 hz1 hz2 rfl (by omega) (.slice (some ⟨w.heap.size,0,none⟩) 0 0) 0 [] rfl (own_empty w _ _ (Nat.le_refl _)) B (some ad) l.length c (strs l) rfl (hr.alloc hB _) (strs_one l) (by simp only [maxLen];omega) (by omega) (by simp) ?_;intro v1 w1 hown1 hg1 hat1)
 clear hnil
 obtain ⟨A',c',rfl⟩:=own_formN hown1
 go_ret
 refine ⟨A',c',by simp,by simpa using hown1,((Below.refl _ w).alloc (Nat.le_refl _) _).grown hg1 (by simp) (fun k e=>by cases e;exact Nat.le_refl _)⟩
set_option maxHeartbeats 1000000 in
set_option maxRecDepth 100000 in
theorem Clone_nil (w:World):Calls Tryz.prog 53 #[.slice none 0 0] w fun e w'=>e=.returned (.slice none 0 0)∧w=w':=by
 have hnil:∀ W:World,(binOp .eql 99 (.slice none 0 0) (.slice none 0 0)).run Tryz.prog W=.ok (.bool true) W:=fun W=>(by first | exact Lib.run_eql_slice_nil W 99 101 _ _ _ _ _ Tryz.underlying99 | exact Lib.run_eql_slice_nil W 99 101 _ _ _ _ Tryz.underlying99)
 go_enter Tryz.func53,Tryz.ntmps53
 go_wp2
 go_ret
 exact ⟨rfl,rfl⟩
theorem ownsRow_base' {w:World} {B B' e size n:Nat} {v:Value} {xs:List Value} (h:w.ownsRow B e size v n xs) (hB:B'≤B):w.ownsRow B' e size v n xs:=⟨h.1,h.2.imp id fun ⟨g,cap,cur,e1,e2,r⟩=>⟨g,cap,cur,e1,Nat.le_trans hB e2,r⟩⟩
theorem Clone_row {X:Nat→Prop} {w:World} {A:Option Addr} {c:Nat} {l:List ByteArray} (h:RowX X w 101 1 (.slice A l.length c) l.length (strs l)) (hl:l.length≤5000) :
 Calls Tryz.prog 53 #[.slice A l.length c] w fun e w'=>∃ A' c',e=.returned (.slice A' l.length c')∧w'.ownsRow w.heap.size 101 1 (.slice A' l.length c') l.length (strs l)∧Below w.heap.size w w':=by
 have hr:=h.reads (A:=A) (c:=c) rfl
 rcases h.1.2 with ⟨h1,h2⟩ | ⟨g,cap,cur,h1,_⟩
 ·have e:l=[]:=List.eq_nil_of_length_eq_zero h2
  subst e
  cases h1
  refine (Clone_nil w).mono ?_
  rintro e w' ⟨rfl,rfl⟩
  exact ⟨none,0,rfl,World.ownsRow_nil _ _ _ _,Below.refl _ _⟩
 ·cases h1
  exact Clone_some _ _ l w hr (Nat.le_refl _) hl
set_option maxHeartbeats 1000000 in
set_option maxRecDepth 100000 in
theorem DeleteFunc_none {w:World} {pf fb:Nat} {c:Nat} {A:Option Addr} {l:List Wr} (hown:w.ownsRow 0 106 3 (.slice A l.length c) l.length (wcells l)) (hl:l.length≤1000) (hp:w.cell? ⟨pf,0,none⟩=some (.pointer (some ⟨fb,0,none⟩)))
 (hfs:∀ y∈l,∃ cf tf,w.heap[y.f]?=some (.cells cf tf (0,0))) (hfb:∃ cf tf,w.heap[fb]?=some (.cells cf tf (0,0))) (hi:firstI fb l=-1) :
 Calls Tryz.prog 83 #[.slice A l.length c,.func (.func 84) #[] #[.pointer (some ⟨pf,0,none⟩)]] w fun e w'=>e=.returned (.slice A l.length c)∧Below w.heap.size w w':=by
 have hI:=IndexFunc_any hown hl hp hfs hfb
 rw [hi] at hI
 go_enter Tryz.func83,Tryz.ntmps83
 go_wp2_with (go_at_call 104;refine hI.mono ?_;rintro e w1 ⟨rfl,hB1⟩)
 go_ret
 exact ⟨rfl,hB1⟩
theorem first_cases (fb:Nat):∀ (l:List Wr) (s:Nat),(first fb l s=none∧∀ y∈l,y.f≠fb)∨∃ i,first fb l s=some (s+i)∧i<l.length∧(∀ j y,j<i→l[j]?=some y→y.f≠fb)∧∀ y,l[i]?=some y→y.f=fb
 | [],s=>.inl ⟨rfl,fun y hy=>by cases hy⟩
 | x::l,s=>by
  by_cases h:x.f=fb
  ·refine .inr ⟨0,by unfold first;rw [if_pos h];rfl,by simp,fun j y hj=>by omega,fun y hy=>?_⟩
   simp at hy;subst hy;exact h
  ·have e:first fb (x::l) s=first fb l (s+1):=if_neg h
   rcases first_cases fb l (s+1) with ⟨h1,h2⟩ | ⟨i,h1,h2,h3,h4⟩
   ·refine .inl ⟨e.trans h1,fun y hy=>?_⟩
    rcases List.mem_cons.1 hy with rfl | hy
    ·exact h
    ·exact h2 y hy
   ·refine .inr ⟨i+1,by rw [e,h1,show s+1+i=s+(i+1) by omega],by simp;omega,fun j y hj hy=>?_,fun y hy=>h4 y (by simpa using hy)⟩
    cases j with
    | zero=>simp at hy;subst hy;exact h
    | succ j=>exact h3 j y (by omega) (by simpa using hy)
theorem DeleteFunc_any {X:Nat→Prop} {w:World} {pf fb c:Nat} {A:Option Addr} {l:List Wr} (hr:RowX X w 106 3 (.slice A l.length c) l.length (wcells l)) (hl:l.length≤1000) (hp:w.cell? ⟨pf,0,none⟩=some (.pointer (some ⟨fb,0,none⟩)))
 (hpf:∀ cs,w.heap[pf]?≠some (.cells cs 106 (0,0))) (hfs:∀ y∈l,∃ cf,w.heap[y.f]?=some (.cells cf 103 (0,0))) (hfb:∃ cf,w.heap[fb]?=some (.cells cf 103 (0,0))) :
 Calls Tryz.prog 83 #[.slice A l.length c,.func (.func 84) #[] #[.pointer (some ⟨pf,0,none⟩)]] w fun e w' =>
  ∃ v',e=.returned v'∧RowX X w' 106 3 v' (others fb l).length (wcells (others fb l))∧v'.ownBlock=(.slice A l.length c:Value).ownBlock∧w.grownBy w' (.slice A l.length c:Value).ownBlock:=by
 have hfs':∀ y∈l,∃ cf tf,w.heap[y.f]?=some (.cells cf tf (0,0)):=fun y hy=>by obtain ⟨cf,h⟩:=hfs y hy;exact ⟨cf,_,h⟩
 rcases first_cases fb l 0 with ⟨h1,h2⟩ | ⟨i,h1,h2,h3,h4⟩
 ·have hi:firstI fb l=-1:=by unfold firstI;rw [h1]
  have ho:others fb l=l:=List.filter_eq_self.2 (fun x hx=>by simpa using h2 x hx)
  refine (DeleteFunc_none hr.1 hl hp hfs' (by obtain ⟨cf,h⟩:=hfb;exact ⟨cf,_,h⟩) hi).mono ?_
  rintro e w' ⟨rfl,hB⟩
  refine ⟨_,rfl,?_,rfl,⟨hB.os,hB.tape,hB.output,hB.size,fun k hk _=>hB.block k hk⟩⟩
  rw [ho]
  exact hr.keep (fun k cs _ hk h=>(hB.block k (hr.lt hk)).trans h) (fun _ h=>h)
 ·have hi:firstI fb l=(i:Int):=by unfold firstI;rw [h1];simp
  rcases hr.1.2 with ⟨_,h5⟩ | ⟨g,cap,cur,h5,h6,h7,h8,h9,h10,h11⟩
  ·omega
  ·simp only [Value.slice.injEq] at h5
   obtain ⟨rfl,_,rfl⟩:=h5
   have hpg:pf≠g:=fun e=>by subst e;exact hpf _ h7
   refine (DeleteFunc_some (hr.2 g rfl) h7 (fun t u hu=>?_) h10 h8 h9 hl hpg hp hr.1 (fun y hy=>⟨fun e=>?_,hfs' y hy⟩) ⟨fun e=>?_,?_⟩ hi h2 h3 h4).mono ?_
   ·rw [←h11,List.getElem?_take] at hu
    by_cases ht:t<l.length*3
    ·rw [if_pos ht] at hu;simpa using hu
    ·rw [if_neg ht] at hu;cases hu
   ·obtain ⟨cf,h⟩:=hfs y hy
    rw [e,h7] at h;cases h
   ·obtain ⟨cf,h⟩:=hfb
    rw [e,h7] at h;cases h
   ·obtain ⟨cf,h⟩:=hfb;exact ⟨cf,_,h⟩
   ·rintro e w' ⟨v',rfl,hr',hb',hg'⟩
    exact ⟨v',rfl,hr',hb',hg'⟩
set_option maxHeartbeats 4000000 in
set_option maxRecDepth 100000 in
theorem Sync_walk {X:Nat→Prop} {w w1:World} {db f cn c4:Nat} {room after code:Int} {armed:Bool} {sf nw ch sv:Value} {nm:ByteArray} {An A4:Option Addr} {ln:List ByteArray} {l:List Wr}
 (hO:Calls Tryz.prog 73 #[.pointer (some ⟨db,0,none⟩),.string nm] w fun e w'=>e=.returned (.tuple #[.pointer (some ⟨f,0,none⟩),.int .i64 0])∧w'=w1)
 (hd:Blk w1 db 66 (dcells room sf nw ch (.slice A4 l.length c4) armed after code)) (hf:Blk w1 f 103 #[sv,.slice An ln.length cn])
 (hn:RowX X w1 101 1 (.slice An ln.length cn) ln.length (strs ln)) (hl:ln.length≤5000) (hw:RowX X w1 106 3 (.slice A4 l.length c4) l.length (wcells l)) (hlw:l.length≤1000) (hfs:∀ y∈l,∃ cf,w1.heap[y.f]?=some (.cells cf 103 (0,0))) :
 Calls Tryz.prog 33 #[.pointer (some ⟨db,0,none⟩),.string nm] w fun e w'=>Ends w opSync nm 0 e w'∧∃ w3 A3 c3 w5 v',Below w1.heap.size w1 w3∧w3.ownsRow w1.heap.size 101 1 (.slice A3 ln.length c3) ln.length (strs ln) ∧
  RowX X w5 106 3 v' (others f l).length (wcells (others f l))∧v'.ownBlock=(.slice A4 l.length c4:Value).ownBlock∧(w3.setCell ⟨f,0,none⟩ (.slice A3 ln.length c3)).grownBy w5 (.slice A4 l.length c4:Value).ownBlock∧Below w5.heap.size (w5.setCell ⟨db,4,none⟩ v') w':=by
 go_enter Tryz.func33,Tryz.ntmps33
 go_wp2_with (go_at_call 73;refine hO.mono ?_;rintro e w9 ⟨rfl,h9⟩;obtain rfl:w1=w9:=h9.symm)
 have bp:Blk (w1.alloc (.cells #[.pointer (some ⟨f,0,none⟩)] 98)) w1.heap.size 98 #[.pointer (some ⟨f,0,none⟩)]:=Blk.new w1 _ _
 obtain ⟨W,hW⟩:∃ W,w1.alloc (.cells #[.pointer (some ⟨f,0,none⟩)] 98)=W:=⟨_,rfl⟩
 have hBW:Below w1.heap.size w1 W:=hW ▸ (Below.refl _ _).alloc (Nat.le_refl _) _
 have hsW:W.heap.size=w1.heap.size+1:=by rw [←hW];simp
 rw [hW] at bp ⊢
 clear hW
 have hfW:Blk W f 103 _:=(hBW.block f hf.lt).trans hf
 have hnW:RowX X W 101 1 (.slice An ln.length cn) ln.length (strs ln):=hn.keep (fun k cs _ hk h=>(hBW.block k (hn.lt hk)).trans h) (fun _ h=>h)
 have p0:W.cell? ⟨w1.heap.size,0,none⟩=some (.pointer (some ⟨f,0,none⟩)):=bp.cell 0
 have q1:W.cell? ⟨f,1,none⟩=some (.slice An ln.length cn):=hfW.cell 1
 have hfl:=hf.lt
 have hdl:=hd.lt
 go_region_held3 (fun w'=>w'.cell? ⟨w1.heap.size,0,none⟩=some (.pointer (some ⟨f,0,none⟩))∧w'.cell? ⟨f,1,none⟩=some (.slice An ln.length cn))
  (first
   | exact ⟨p0,q1⟩
   | exact ⟨bp3.cell 0,hf3.cell 1⟩
   | exact ⟨(bp3.far (show w1.heap.size≠f by omega) _).cell 0,(hf3.set_ 0 _).cell 1⟩)
  ((go_at_call 53;refine (Clone_row (w:=W.drew) hnW hl).mono ?_;rintro e w3 ⟨A3,c3,rfl,ho3,hB3'⟩;have hB3:Below W.heap.size W w3:=⟨hB3'.os,hB3'.tape,hB3'.output,hB3'.size,hB3'.block⟩;have bp3:Blk w3 w1.heap.size 98 _:=(hB3.block _ bp.lt).trans bp;have hf3:Blk w3 f 103 _:=(hB3.block f hfW.lt).trans hfW;have q0:w3.cell? ⟨f,0,none⟩=some sv:=hf3.cell 0;have z0:=hf3.frozen 0))
 all_goals
  have hB13:Below w1.heap.size w1 w3:=hBW.trans (hB3.mono hBW.size)
  have hd3:Blk w3 db 66 (dcells room sf nw ch (.slice A4 l.length c4) armed after code):=(hB13.block db hdl).trans hd
  have hne:db≠f:=fun e=>by
   subst e
   unfold Blk at hd hf
   rw [hd] at hf
   cases hf
  obtain ⟨W4,hW4⟩:∃ W4,w3.setCell ⟨f,0,none⟩ (.slice A3 ln.length c3)=W4:=⟨_,rfl⟩
  have hoth:∀ k,k≠f→W4.heap[k]?=w3.heap[k]?:=fun k hk=>by rw [←hW4];exact Below.heap_setCell _ _ _ _ hk
  have hf4:Blk W4 f 103 #[.slice A3 ln.length c3,.slice An ln.length cn]:=by rw [←hW4];exact hf3.set_ 0 _
  have hd4:Blk W4 db 66 (dcells room sf nw ch (.slice A4 l.length c4) armed after code):=(hoth db hne).trans hd3
  have bp4:Blk W4 w1.heap.size 98 _:=(hoth _ (by omega)).trans bp3
  have hw4:RowX X W4 106 3 (.slice A4 l.length c4) l.length (wcells l):=hw.keep (fun k cs _ hk h=>by
   have hkl:=hw.lt hk
   have h3:=(hB13.block k hkl).trans h
   exact (hoth k (fun e=>by subst e;have:=hf3;unfold Blk at this;rw [this] at h3;cases h3)).trans h3) (fun _ h=>h)
  have hfs4:∀ y∈l,∃ cf,W4.heap[y.f]?=some (.cells cf 103 (0,0)):=fun y hy=>by
   obtain ⟨cf,h⟩:=hfs y hy
   by_cases e:y.f=f
   ·rw [e];exact ⟨_,hf4⟩
   ·exact ⟨cf,(hoth _ e).trans ((hB13.block _ (Array.getElem?_eq_some_iff.1 h).1).trans h)⟩
  have hDF:=DeleteFunc_any (pf:=w1.heap.size) (fb:=f) hw4 hlw (bp4.cell 0) (fun cs h=>by unfold Blk at bp4;rw [bp4] at h;cases h) hfs4 ⟨_,hf4⟩
  have e4:W4.cell? ⟨db,4,none⟩=some (.slice A4 l.length c4):=hd4.cell 4
  rw [hW4]
  have HW4:=Lib.hid hW4
  clear hW4
  go_wp2_with (first
   | (go_at_call 83;refine hDF.mono ?_;rintro e w5 ⟨v',rfl,hr5,hb5,hg5⟩;obtain ⟨A5,c5,rfl⟩:=hr5.form;have hd5:Blk w5 db 66 _:=(hg5.block db hd4.lt (blk_apart hd4 hw4 (by decide))).trans hd4;have e5:w5.cell? ⟨db,4,none⟩=some (.slice A4 l.length c4):=hd5.cell 4;have z5:=hd5.frozen 4)
   | (go_at_call 29;refine (fault_any _ _ _ _).mono ?_;rintro e w7 ⟨⟨v,rfl,hv⟩,hb7⟩))
  go_ret
  rw [←HW4.out] at hg5
  exact ⟨⟨v,rfl,hv.zero⟩,w3,A3,c3,w5,_,hB13,ownsRow_base' ho3 (by show w1.heap.size≤W.heap.size;omega),hr5,hb5,hg5,by rw [show (w5.setCell ⟨db,4,none⟩ (.slice A5 (others f l).length c5)).heap.size=w5.heap.size by simp [World.setCell]] at hb7;exact hb7⟩
section
variable {X X':Nat→Prop} {w w1 w2 w3 w4:World} {db M1 M2:Nat} {v3 v4:Value} {q q':DQ} {fs:List Nat} {V:Nat→Bool→Value} {C:Nat→Bool→List ByteArray}
theorem Sync_go (hF:FilesV X w fs V C) (h:DiskV X w db M1 M2 v3 v4 q) (hb:∀ k,X k→k<w.heap.size) (ha:q.after≤9223372036854775807)
 {nm:ByteArray} {f:Nat} (ho:openedQ q nm=(0,some f)) (hff:f∈fs) (hl:(C f true).length≤5000) (hm:q.wrs.length≤1000) (hwf:∀ y∈q.wrs,y.f∈fs) :
 Calls Tryz.prog 33 #[.pointer (some ⟨db,0,none⟩),.string nm] w fun e w'=>Ends w opSync nm 0 e w'∧Left X w db M1 fs (upd C f false (C f true)) {(failQ q).2 with wrs:=others f q.wrs} w':=by
 obtain ⟨w1,hO,hD,hN⟩:=opened_any h ha nm
 rw [ho] at hO
 have hF1:FilesV X w1 fs V C:=hF.keep (fun _ h=>h) hN.files
 have f1:Fr X w w1:=hN.fr' hD.inX
 obtain ⟨An,cn,hV⟩:=(hF1.row f hff true).form
 have hfb:=hF1.blk f hff
 rw [hV] at hfb
 have hrn:=hF1.row f hff true
 rw [hV] at hrn
 obtain ⟨Aw,cw,hv4⟩:=hD.wrs.form
 have hwr:=failQ_wrs q
 have hown:=hD.wrs
 have hdb:=hD.blk
 rw [hwr] at hv4 hown
 rw [hv4] at hdb hown
 refine (Sync_walk (X:=X) hO hdb hfb hrn hl hown hm (fun y hy=>⟨_,hF1.blk y.f (hwf y hy)⟩)).mono ?_
 rintro e w' ⟨hE,w3,A3,c3,w5,v',hB3,ho3,hr5,hb5,hg5,hB7⟩
 refine ⟨hE,?_⟩
 have s1:=hN.size
 have s3:=hB3.size
 have hF3:=hF1.keep (fun _ h=>h) (Same.of_below (T:=FT) (X:=X) hB3)
 have hr3:RowX (More X w) w3 101 1 (.slice A3 (C f true).length c3) (C f true).length (strs (C f true)):=⟨own_base ho3,fun k hk=>.inr (by have:=(ho3.lt k hk).1;omega)⟩
 have hF4:=hF3.turn (b:=false) (X':=More X w) (w1:=w3) hff (fun _=>more_left) (fun k cs t _ _ _ h=>h) hr3 (.inr (fun k hk hx=>by have:=hb k hx;have:=(ho3.lt k hk).1;omega))
 have hD3:=hD.below hB3
 rw [hv4] at hD3
 have hD4:DiskV X (w3.setCell ⟨f,0,none⟩ (.slice A3 (C f true).length c3)) db M1 M2 v3 (.slice Aw q.wrs.length cw) (failQ q).2:=hD3.keep (fun _ h=>h) (same_set (hF3.blk f hff) (by rintro (e | e | e) <;> cases e)) (sameM_set (hF3.blk f hff))
 have hD5:=hD4.wrs4 (X':=X) (fun _ h=>h) hg5 hr5
 have e5:(w5.setCell ⟨db,4,none⟩ v').heap.size=w5.heap.size:=by simp [World.setCell]
 have hB':Below (w5.setCell ⟨db,4,none⟩ v').heap.size (w5.setCell ⟨db,4,none⟩ v') w':=by rw [e5];exact hB7
 refine ⟨⟨_,_,_,(hD5.below hB').keep (fun _=>more_left) Same.refl (fun _ _ _ _ h=>h)⟩,⟨_,hF4.keep (fun _ h=>h) ?_⟩,?_⟩
 ·have hr4:RowX (More X w) (w3.setCell ⟨f,0,none⟩ (.slice A3 (C f true).length c3)) 106 3 (.slice Aw q.wrs.length cw) (failQ q).2.wrs.length (wcells (failQ q).2.wrs):=hD4.wrs.keep (fun _ _ _ _ h=>h) (fun _=>more_left)
  have s5:Same FT (More X w) _ w5:=same_grown hr4 hg5 (by rintro (e | e) <;> cases e)
  have hb5':Blk w5 db 66 _:=(hg5.block db hD4.blk.lt (blk_apart hD4.blk hD4.wrs (by decide))).trans hD4.blk
  exact (s5.trans (same_set hb5' (by rintro (e | e) <;> cases e))).trans (Same.of_below hB')
 ·have f3:Fr X w w3:=f1.trans (Fr.of_below hB3)
  have f4:=f3.setCell (p:=⟨f,0,none⟩) (.inr (hF1.inX f hff)) (.slice A3 (C f true).length c3)
  have f5:Fr X w w5:=f4.grown hg5 (fun k hk=>.inr (hown.2 k hk))
  exact (f5.setCell (p:=⟨db,4,none⟩) (.inr hD.inX) _).trans (Fr.of_below hB')
end
end
section
open Go.RowKit
section
variable {X:Nat→Prop} {w:World} {db M1 M2:Nat} {v3 v4:Value} {q:DQ} {fs:List Nat} {V:Nat→Bool→Value} {C:Nat→Bool→List ByteArray}
set_option maxHeartbeats 1000000 in
set_option maxRecDepth 100000 in
theorem Grow_ref (hF:FilesV X w fs V C) (h:DiskV X w db M1 M2 v3 v4 q) (ha:q.after≤9223372036854775807) (nm:ByteArray) (n:Int) (hk:(openedQ q nm).1≠0) :
 Calls Tryz.prog 24 #[.pointer (some ⟨db,0,none⟩),.string nm,.int .i64 n] w fun e w'=>Ends w opGrow nm (openedQ q nm).1 e w'∧Left X w db M1 fs C (failQ q).2 w':=by
 obtain ⟨w1,hO,hD,hN⟩:=opened_any h ha nm
 have hc':((openedQ q nm).1 != 0)=true:=by simpa using hk
 go_enter Tryz.func24,Tryz.ntmps24
 go_wp2_with (first
  | (go_at_call 73;refine hO.mono ?_;rintro e w9 ⟨rfl,h9⟩;obtain rfl:w1=w9:=h9.symm)
  | (go_at_call 29;refine (fault_any _ _ _ _).mono ?_;rintro e w7 ⟨⟨v,rfl,hv⟩,hb7⟩))
 go_ret
 exact ⟨⟨v,rfl,hv.mono (by rw [hN.size];exact Nat.le_refl _)⟩,left_near hD hF hN hb7⟩
set_option maxHeartbeats 1000000 in
set_option maxRecDepth 100000 in
theorem Grow_arg (hF:FilesV X w fs V C) (h:DiskV X w db M1 M2 v3 v4 q) (ha:q.after≤9223372036854775807) {nm:ByteArray} {f:Nat} (ho:openedQ q nm=(0,some f)) (hff:f∈fs) (n:Int) (hn:n<(C f true).length∨4096<n) :
 Calls Tryz.prog 24 #[.pointer (some ⟨db,0,none⟩),.string nm,.int .i64 n] w fun e w'=>Ends w opGrow nm 2 e w'∧Left X w db M1 fs C (failQ q).2 w':=by
 obtain ⟨w1,hO,hD,hN⟩:=opened_any h ha nm
 rw [ho] at hO
 have hF1:FilesV X w1 fs V C:=hF.keep (fun _ h=>h) hN.files
 obtain ⟨An,cn,hAn⟩:=(hF1.row f hff true).form
 have hfb:=hF1.blk f hff
 rw [hAn] at hfb
 have f1:w1.cell? ⟨f,1,none⟩=some (.slice An (C f true).length cn):=hfb.cell 1
 by_cases h1:n<(C f true).length
 ·have d1:decide (n<((C f true).length:Int))=true:=by simpa using h1
  go_enter Tryz.func24,Tryz.ntmps24
  go_wp2_with (first
   | (go_at_call 73;refine hO.mono ?_;rintro e w9 ⟨rfl,h9⟩;obtain rfl:w1=w9:=h9.symm)
   | (go_at_call 29;refine (fault_any _ _ _ _).mono ?_;rintro e w7 ⟨⟨v,rfl,hv⟩,hb7⟩))
  go_ret
  exact ⟨⟨v,rfl,hv.mono (by rw [hN.size];exact Nat.le_refl _)⟩,left_near hD hF hN hb7⟩
 ·have d1:decide (n<((C f true).length:Int))=false:=by simpa using h1
  have d2:decide (4096<n)=true:=by simp;omega
  go_enter Tryz.func24,Tryz.ntmps24
  go_wp2_with (first
   | (go_at_call 73;refine hO.mono ?_;rintro e w9 ⟨rfl,h9⟩;obtain rfl:w1=w9:=h9.symm)
   | (go_at_call 29;refine (fault_any _ _ _ _).mono ?_;rintro e w7 ⟨⟨v,rfl,hv⟩,hb7⟩))
  go_ret
  exact ⟨⟨v,rfl,hv.mono (by rw [hN.size];exact Nat.le_refl _)⟩,left_near hD hF hN hb7⟩
set_option maxHeartbeats 1000000 in
set_option maxRecDepth 100000 in
theorem Write_ref (hF:FilesV X w fs V C) (h:DiskV X w db M1 M2 v3 v4 q) (ha:q.after≤9223372036854775807) (nm:ByteArray) (n:Int) (A:Option Addr) (l c:Nat) (hk:(openedQ q nm).1≠0) :
 Calls Tryz.prog 25 #[.pointer (some ⟨db,0,none⟩),.string nm,.int .i64 n,.slice A l c] w fun e w'=>Ends w opWrite nm (openedQ q nm).1 e w'∧Left X w db M1 fs C (failQ q).2 w':=by
 obtain ⟨w1,hO,hD,hN⟩:=opened_any h ha nm
 have hc':((openedQ q nm).1 != 0)=true:=by simpa using hk
 go_enter Tryz.func25,Tryz.ntmps25
 go_wp2_with (first
  | (go_at_call 73;refine hO.mono ?_;rintro e w9 ⟨rfl,h9⟩;obtain rfl:w1=w9:=h9.symm)
  | (go_at_call 29;refine (fault_any _ _ _ _).mono ?_;rintro e w7 ⟨⟨v,rfl,hv⟩,hb7⟩))
 go_ret
 exact ⟨⟨v,rfl,hv.mono (by rw [hN.size];exact Nat.le_refl _)⟩,left_near hD hF hN hb7⟩
set_option maxHeartbeats 1000000 in
set_option maxRecDepth 100000 in
theorem Write_sec (hF:FilesV X w fs V C) (h:DiskV X w db M1 M2 v3 v4 q) (ha:q.after≤9223372036854775807) {nm:ByteArray} {f:Nat} (ho:openedQ q nm=(0,some f)) (hff:f∈fs) (n:Int) (A:Option Addr) (l c:Nat) (hn:(decide (0≤n) && decide (n<((C f true).length:Int)))=false) :
 Calls Tryz.prog 25 #[.pointer (some ⟨db,0,none⟩),.string nm,.int .i64 n,.slice A l c] w fun e w'=>Ends w opWrite nm 43 e w'∧Left X w db M1 fs C (failQ q).2 w':=by
 obtain ⟨w1,hO,hD,hN⟩:=opened_any h ha nm
 rw [ho] at hO
 have hF1:FilesV X w1 fs V C:=hF.keep (fun _ h=>h) hN.files
 obtain ⟨An,cn,hAn⟩:=(hF1.row f hff true).form
 have hfb:=hF1.blk f hff
 rw [hAn] at hfb
 have hS:=isSector_any (n:=n) hfb
 rw [hn] at hS
 go_enter Tryz.func25,Tryz.ntmps25
 go_wp2_with (first
  | (go_at_call 73;refine hO.mono ?_;rintro e w9 ⟨rfl,h9⟩;obtain rfl:w1=w9:=h9.symm)
  | (go_at_call 76;refine hS.mono ?_;rintro e w8 ⟨rfl,rfl⟩)
  | (go_at_call 29;refine (fault_any _ _ _ _).mono ?_;rintro e w7 ⟨⟨v,rfl,hv⟩,hb7⟩))
 go_ret
 exact ⟨⟨v,rfl,hv.mono (by rw [hN.size];exact Nat.le_refl _)⟩,left_near hD hF hN hb7⟩
set_option maxHeartbeats 1000000 in
set_option maxRecDepth 100000 in
theorem Write_arg (hF:FilesV X w fs V C) (h:DiskV X w db M1 M2 v3 v4 q) (ha:q.after≤9223372036854775807) {nm:ByteArray} {f:Nat} (ho:openedQ q nm=(0,some f)) (hff:f∈fs) (n:Int) (A:Option Addr) (l c:Nat) (hn:(decide (0≤n) && decide (n<((C f true).length:Int)))=true) (hl:l≠64) :
 Calls Tryz.prog 25 #[.pointer (some ⟨db,0,none⟩),.string nm,.int .i64 n,.slice A l c] w fun e w'=>Ends w opWrite nm 2 e w'∧Left X w db M1 fs C (failQ q).2 w':=by
 obtain ⟨w1,hO,hD,hN⟩:=opened_any h ha nm
 rw [ho] at hO
 have hF1:FilesV X w1 fs V C:=hF.keep (fun _ h=>h) hN.files
 obtain ⟨An,cn,hAn⟩:=(hF1.row f hff true).form
 have hfb:=hF1.blk f hff
 rw [hAn] at hfb
 have hS:=isSector_any (n:=n) hfb
 rw [hn] at hS
 have e1:((l:Int) != 64)=true:=by simp;omega
 have e2:((l:Int)==64)=false:=by simp;omega
 go_enter Tryz.func25,Tryz.ntmps25
 go_wp2_with (first
  | (go_at_call 73;refine hO.mono ?_;rintro e w9 ⟨rfl,h9⟩;obtain rfl:w1=w9:=h9.symm)
  | (go_at_call 76;refine hS.mono ?_;rintro e w8 ⟨rfl,rfl⟩)
  | (go_at_call 29;refine (fault_any _ _ _ _).mono ?_;rintro e w7 ⟨⟨v,rfl,hv⟩,hb7⟩))
 go_ret
 exact ⟨⟨v,rfl,hv.mono (by rw [hN.size];exact Nat.le_refl _)⟩,left_near hD hF hN hb7⟩
set_option maxHeartbeats 1000000 in
set_option maxRecDepth 100000 in
theorem Read_ref (hF:FilesV X w fs V C) (h:DiskV X w db M1 M2 v3 v4 q) (ha:q.after≤9223372036854775807) (nm:ByteArray) (n:Int) (hk:(openedQ q nm).1≠0) :
 Calls Tryz.prog 26 #[.pointer (some ⟨db,0,none⟩),.string nm,.int .i64 n] w fun e w'=>(∃ v,e=.returned (.tuple #[.slice none 0 0,v])∧ErrAt w.heap.size w' opRead nm (openedQ q nm).1 v)∧Left X w db M1 fs C (failQ q).2 w':=by
 obtain ⟨w1,hO,hD,hN⟩:=opened_any h ha nm
 have hc':((openedQ q nm).1 != 0)=true:=by simpa using hk
 have hc2:((openedQ q nm).1==0)=false:=by simpa using hk
 go_enter Tryz.func26,Tryz.ntmps26
 go_wp2_with (first
  | (go_at_call 73;refine hO.mono ?_;rintro e w9 ⟨rfl,h9⟩;obtain rfl:w1=w9:=h9.symm)
  | (go_at_call 29;refine (fault_any _ _ _ _).mono ?_;rintro e w7 ⟨⟨v,rfl,hv⟩,hb7⟩))
 go_ret2
 exact ⟨⟨v,rfl,hv.mono (by rw [hN.size];exact Nat.le_refl _)⟩,left_near hD hF hN hb7⟩
set_option maxHeartbeats 1000000 in
set_option maxRecDepth 100000 in
theorem Read_sec (hF:FilesV X w fs V C) (h:DiskV X w db M1 M2 v3 v4 q) (ha:q.after≤9223372036854775807) {nm:ByteArray} {f:Nat} (ho:openedQ q nm=(0,some f)) (hff:f∈fs) (n:Int) (hn:(decide (0≤n) && decide (n<((C f true).length:Int)))=false) :
 Calls Tryz.prog 26 #[.pointer (some ⟨db,0,none⟩),.string nm,.int .i64 n] w fun e w'=>(∃ v,e=.returned (.tuple #[.slice none 0 0,v])∧ErrAt w.heap.size w' opRead nm 43 v)∧Left X w db M1 fs C (failQ q).2 w':=by
 obtain ⟨w1,hO,hD,hN⟩:=opened_any h ha nm
 rw [ho] at hO
 have hF1:FilesV X w1 fs V C:=hF.keep (fun _ h=>h) hN.files
 obtain ⟨An,cn,hAn⟩:=(hF1.row f hff true).form
 have hfb:=hF1.blk f hff
 rw [hAn] at hfb
 have hS:=isSector_any (n:=n) hfb
 rw [hn] at hS
 go_enter Tryz.func26,Tryz.ntmps26
 go_wp2_with (first
  | (go_at_call 73;refine hO.mono ?_;rintro e w9 ⟨rfl,h9⟩;obtain rfl:w1=w9:=h9.symm)
  | (go_at_call 76;refine hS.mono ?_;rintro e w8 ⟨rfl,rfl⟩)
  | (go_at_call 29;refine (fault_any _ _ _ _).mono ?_;rintro e w7 ⟨⟨v,rfl,hv⟩,hb7⟩))
 go_ret2
 exact ⟨⟨v,rfl,hv.mono (by rw [hN.size];exact Nat.le_refl _)⟩,left_near hD hF hN hb7⟩
set_option maxHeartbeats 1000000 in
set_option maxRecDepth 100000 in
theorem Sync_ref (hF:FilesV X w fs V C) (h:DiskV X w db M1 M2 v3 v4 q) (ha:q.after≤9223372036854775807) (nm:ByteArray) (hk:(openedQ q nm).1≠0) :
 Calls Tryz.prog 33 #[.pointer (some ⟨db,0,none⟩),.string nm] w fun e w'=>Ends w opSync nm (openedQ q nm).1 e w'∧Left X w db M1 fs C (failQ q).2 w':=by
 obtain ⟨w1,hO,hD,hN⟩:=opened_any h ha nm
 have hc':((openedQ q nm).1 != 0)=true:=by simpa using hk
 have hc2:((openedQ q nm).1==0)=false:=by simpa using hk
 go_enter Tryz.func33,Tryz.ntmps33
 go_wp2_with (first
  | (go_at_call 73;refine hO.mono ?_;rintro e w9 ⟨rfl,h9⟩;obtain rfl:w1=w9:=h9.symm)
  | (go_at_call 29;refine (fault_any _ _ _ _).mono ?_;rintro e w7 ⟨⟨v,rfl,hv⟩,hb7⟩))
 go_ret
 exact ⟨⟨v,rfl,hv.mono (by have:=hN.size;simp;omega)⟩,left_near hD hF hN (((Below.refl w1.heap.size w1).alloc (Nat.le_refl _) _).trans (hb7.mono (by simp)))⟩
set_option maxHeartbeats 2000000 in
set_option maxRecDepth 100000 in
theorem Grow_full (hF:FilesV X w fs V C) (h:DiskV X w db M1 M2 v3 v4 q) (ha:q.after≤9223372036854775807) (hfs:∀ x∈q.now,x.f∈fs) (hn:q.now.length≤8) (hc:∀ x∈q.now,(C x.f true).length≤4096)
 {nm:ByteArray} {f:Nat} (ho:openedQ q nm=(0,some f)) (hff:f∈fs) {n:Nat} (h1:(C f true).length≤n) (h2:n≤4096) (h3:q.room<(lens C q.now:Int)+n-(C f true).length) :
 Calls Tryz.prog 24 #[.pointer (some ⟨db,0,none⟩),.string nm,.int .i64 n] w fun e w'=>Ends w opGrow nm 42 e w'∧Left X w db M1 fs C (failQ q).2 w':=by
 obtain ⟨w1,hO,hD,hN⟩:=opened_any h ha nm
 rw [ho] at hO
 have hF1:FilesV X w1 fs V C:=hF.keep (fun _ h=>h) hN.files
 obtain ⟨An,cn,hAn⟩:=(hF1.row f hff true).form
 have hf:=hF1.blk f hff
 rw [hAn] at hf
 have hnow:=failQ_now q
 have hle:lens C q.now≤8*4096:=Nat.le_trans (lens_le hc) (Nat.mul_le_mul_right _ hn)
 have hU:∀ W,Below w1.heap.size w1 W→Calls Tryz.prog 74 #[.pointer (some ⟨db,0,none⟩)] W fun e w'=>e=.returned (.int .i64 (lens C q.now))∧Below W.heap.size W w':=fun W hW=>by
  have:=used_any (hF1.keep (fun _ h=>h) (Same.of_below hW)) (hD.below hW) (by rw [hnow];exact hfs) (by rw [hnow];exact hn) (by rw [hnow];exact hc)
  rw [hnow] at this
  exact this
 have f1:w1.cell? ⟨f,1,none⟩=some (.slice An (C f true).length cn):=hf.cell 1
 obtain ⟨u,hu⟩:∃ u,lens C q.now=u:=⟨_,rfl⟩
 obtain ⟨kn,hkn⟩:∃ kn,(C f true).length=kn:=⟨_,rfl⟩
 rw [hu] at hU h3 hle
 rw [hkn] at f1 hf h1 h3
 have d0:decide ((n:Int)<(kn:Int))=false:=by simp;omega
 have d1:decide ((4096:Int)<(n:Int))=false:=by simp;omega
 have d3:decide (q.room<(u:Int)+n-kn)=true:=by simp;omega
 have hs1:IntKind.i64.wrap ((u:Int)+(n:Int))=(u:Int)+(n:Int):=by rw [IntKind.wrap_i64];omega
 have hs2:IntKind.i64.wrap ((u:Int)+(n:Int)-(kn:Int))=(u:Int)+(n:Int)-(kn:Int):=by rw [IntKind.wrap_i64];omega
 have b0:Below w1.heap.size w1 w1.drew:=⟨rfl,rfl,rfl,Nat.le_refl _,fun _ _=>rfl⟩
 have hd:=hD.blk
 have e0:w1.cell? ⟨db,0,none⟩=some (.int .i64 q.room):=by rw [←failQ_room q];exact hd.cell 0
 go_enter Tryz.func24,Tryz.ntmps24
 go_wp2_with (first
  | (go_at_call 73;refine hO.mono ?_;rintro e w9 ⟨rfl,h9⟩;obtain rfl:w1=w9:=h9.symm))
 go_region_held3 (fun w'=>w'.cell? ⟨f,1,none⟩=some (.slice An kn cn)∧w'.cell? ⟨db,0,none⟩=some (.int .i64 q.room))
  (first
   | exact ⟨f1,e0⟩
   | exact ⟨(hb2.cell (p:=⟨f,1,none⟩) hf.lt).trans f1,(hb2.cell (p:=⟨db,0,none⟩) hd.lt).trans e0⟩)
  ((go_at_call 74;refine (hU w1.drew b0).mono ?_;rintro e w2 ⟨rfl,hb2'⟩;have hb2:Below w1.heap.size w1 w2:=⟨hb2'.os,hb2'.tape,hb2'.output,hb2'.size,hb2'.block⟩))
 go_wp2_with (go_at_call 29;refine (fault_any _ _ _ _).mono ?_;rintro e w7 ⟨⟨v,rfl,hv⟩,hb7⟩)
 go_ret
 exact ⟨⟨v,rfl,hv.mono (by have:=hN.size;have:=hb2.size;omega)⟩,left_near hD hF hN (hb2.trans (hb7.mono hb2.size))⟩
end
end
section
theorem file_set (p:DP) (id:Nat) (l:List ByteArray) (i:Nat) (h:id<p.files.length):(p.files.set id l).getD i []=if i=id then l else p.files.getD i []:=by
 rw [List.getD_eq_getElem?_getD,List.getD_eq_getElem?_getD,List.getElem?_set]
 by_cases e:id=i
 ·subst e;simp [h]
 ·rw [if_neg e,if_neg (fun h=>e h.symm)]
theorem cont_write (p:DP) (x:PW) (i:Nat):({p with wrs:=p.wrs++[x]}:DP).cont i=putW i (p.cont i) x:=by
 unfold DP.cont
 rw [List.foldl_append]
 rfl
theorem putW_ne {i:Nat} {x:PW} (h:x.id≠i) (l:List ByteArray):putW i l x=l:=if_neg h
theorem fold_filter (id i:Nat):∀ (ws:List PW) (l:List ByteArray),(ws.filter fun x=>decide (x.id≠id)).foldl (putW i) l=if i=id then l else ws.foldl (putW i) l
 | [],l=>by simp
 | x::ws,l=>by
  rw [List.filter_cons]
  by_cases hx:x.id=id
  ·rw [if_neg (by simp [hx]),fold_filter id i ws l]
   by_cases hi:i=id
   ·rw [if_pos hi,if_pos hi]
   ·rw [if_neg hi,if_neg hi,List.foldl_cons,putW_ne (by rw [hx];exact fun e=>hi e.symm)]
  ·rw [if_pos (by simp [hx]),List.foldl_cons,fold_filter id i ws]
   by_cases hi:i=id
   ·rw [if_pos hi,if_pos hi,putW_ne (by rw [hi];exact hx)]
   ·rw [if_neg hi,if_neg hi,List.foldl_cons]
theorem cont_sync (p:DP) (id i:Nat) (h:id<p.files.length):({p with files:=p.files.set id (p.cont id),wrs:=p.wrs.filter fun x=>decide (x.id≠id)}:DP).cont i=p.cont i:=by
 show (p.wrs.filter fun x=>decide (x.id≠id)).foldl (putW i) ((p.files.set id (p.cont id)).getD i [])=p.wrs.foldl (putW i) (p.files.getD i [])
 rw [fold_filter,file_set p id _ i h]
 by_cases hi:i=id
 ·rw [if_pos hi,if_pos hi,hi];rfl
 ·rw [if_neg hi,if_neg hi]
theorem fold_grow (i:Nat) (m:List ByteArray):∀ (ws:List PW) (l:List ByteArray),(∀ x∈ws,x.id=i→x.n<l.length)→ws.foldl (putW i) (l++m)=ws.foldl (putW i) l++m
 | [],l,_=>rfl
 | x::ws,l,h=>by
  rw [List.foldl_cons,List.foldl_cons]
  have e:putW i (l++m) x=putW i l x++m:=by
   unfold putW
   by_cases hx:x.id=i
   ·rw [if_pos hx,if_pos hx,List.set_append_left _ _ (h x List.mem_cons_self hx)]
   ·rw [if_neg hx,if_neg hx]
  rw [e,fold_grow i m ws _ (fun y hy hyi=>by rw [putW_len];exact h y (List.mem_cons_of_mem _ hy) hyi)]
theorem cont_grow (p:DP) (hw:WF p) (id i:Nat) (m:List ByteArray) (h:id<p.files.length):({p with files:=p.files.set id (p.file id++m)}:DP).cont i=if i=id then p.cont i++m else p.cont i:=by
 show p.wrs.foldl (putW i) ((p.files.set id (p.file id++m)).getD i [])=_
 rw [file_set p id _ i h]
 by_cases hi:i=id
 ·rw [if_pos hi,if_pos hi]
  subst hi
  exact fold_grow i m p.wrs _ (fun x hx hxi=>by have:=(hw.wrs x hx).1;rw [hxi] at this;exact this)
 ·rw [if_neg hi,if_neg hi];rfl
theorem getD_keepW (fs:List (List ByteArray)) (x:PW) (i:Nat):(keepW fs x).getD i []=putW i (fs.getD i []) x:=by
 unfold keepW putW
 rw [List.getD_eq_getElem?_getD,List.getD_eq_getElem?_getD,List.getElem?_modify]
 by_cases h:x.id=i
 ·rw [if_pos h]
  cases fs[i]? <;> simp [h]
 ·rw [if_neg h]
  cases fs[i]? <;> simp [h]
theorem keepW_len (fs:List (List ByteArray)) (x:PW):(keepW fs x).length=fs.length:=by unfold keepW;simp
theorem crashW_len (keep:List Int):∀ (l:List PW) (i:Nat) (fs:List (List ByteArray)),(crashW keep i l fs).length=fs.length
 | [],i,fs=>rfl
 | x::l,i,fs=>by
  unfold crashW
  rw [crashW_len keep l]
  split
  ·exact keepW_len fs x
  ·rfl
theorem crashW_at (keep:List Int) (id:Nat):∀ (l:List PW) (i:Nat) (fs:List (List ByteArray)),((crashW keep i l fs).getD id []).length=(fs.getD id []).length
 | [],i,fs=>rfl
 | x::l,i,fs=>by
  unfold crashW
  rw [crashW_at keep id l]
  split
  ·rw [getD_keepW,putW_len]
  ·rfl
theorem WF.fail {p:DP} (h:WF p):WF (failP p).2:=by
 unfold failP
 split
 ·exact h
 ·split
  ·exact ⟨h.dir,h.chs,h.ids,h.wrs,h.files,h.room⟩
  ·exact ⟨h.dir,h.chs,h.ids,h.wrs,h.files,h.room⟩
theorem failP_files (p:DP):(failP p).2.files=p.files∧(failP p).2.chs=p.chs∧(failP p).2.dir=p.dir∧(failP p).2.wrs=p.wrs∧(failP p).2.room=p.room:=by
 unfold failP;split <;> (try split) <;> exact ⟨rfl,rfl,rfl,rfl,rfl⟩
theorem failP_now (p:DP):(failP p).2.now=p.now:=by
 obtain ⟨_,h2,h3,_⟩:=failP_files p
 unfold DP.now;rw [h2,h3]
theorem WF.find {p:DP} (h:WF p) {nm:ByteArray} {id:Nat} (hf:findP nm p.now=some id):id∈p.live∧id<p.files.length:=by
 have:=p.now_live _ (findP_mem hf)
 exact ⟨this,h.ids _ this⟩
theorem WF.chg {p:DP} (h:WF p) {c:Ch} (hc:okCh p.now c) (hi:∀ i∈c.ids,i=p.files.length) (m:List (List ByteArray)) (hm:m=[]∧c.ids=[]∨m=[[]]):WF {p with files:=p.files++m,chs:=p.chs++[c]}:=by
 have hlen:p.files.length≤(p.files++m).length:=by simp
 have hfile:∀ i,i<p.files.length→(p.files++m).getD i []=p.files.getD i []:=fun i hi=>by
  rw [List.getD_eq_getElem?_getD,List.getD_eq_getElem?_getD,List.getElem?_append_left hi]
 refine ⟨h.dir,okChs_append.2 ⟨h.chs,hc⟩,fun i hi'=>?_,fun x hx=>?_,fun l hl=>?_,h.room⟩
 ·simp only [DP.live,List.flatMap_append,List.mem_append,List.flatMap_cons,List.flatMap_nil,List.append_nil] at hi'
  have h1:i∈p.live→i<(p.files++m).length:=fun hh=>Nat.lt_of_lt_of_le (h.ids i hh) hlen
  rcases hi' with (h2 | h2 | h2) | h2
  ·exact h1 (by simp [DP.live];exact .inl (by simpa using h2))
  ·exact h1 (by simp only [DP.live,List.mem_append];exact .inl (.inr h2))
  ·rcases hm with ⟨_,h3⟩ | h3
   ·rw [h3] at h2;cases h2
   ·rw [hi i h2,h3];simp
  ·exact h1 (by simp only [DP.live,List.mem_append];exact .inr h2)
 ·have hlt:x.id<p.files.length:=h.ids _ (by simp only [DP.live,List.mem_append];exact .inr (List.mem_map.2 ⟨x,hx,rfl⟩))
  have:=h.wrs x hx
  unfold DP.file at this ⊢
  rw [hfile _ hlt]
  exact this
 ·rcases List.mem_append.1 hl with h1 | h1
  ·exact h.files l h1
  ·rcases hm with ⟨h2,_⟩ | h2
   ·rw [h2] at h1;cases h1
   ·rw [h2] at h1
    obtain rfl:=List.mem_singleton.1 h1
    exact ⟨by simp,by simp⟩
theorem WF.create {p:DP} (h:WF p) (nm:ByteArray):WF (createP p nm).2:=by
 have hf:=h.fail
 simp only [createP]
 split
 ·exact hf
 ·split
  ·exact hf
  ·split
   ·exact hf
   ·split
    ·exact hf
    ·rename_i h1 h2 h3 h4
     refine hf.chg (c:=.new nm (failP p).2.files.length) ⟨by simpa using h3,by simpa using h2,by omega⟩ (by simp [Ch.ids]) [[]] (.inr rfl)
theorem WF.remove {p:DP} (h:WF p) (nm:ByteArray):WF (removeP p nm).2:=by
 have hf:=h.fail
 simp only [removeP]
 split
 ·exact hf
 ·split
  ·exact hf
  ·rename_i h1 h2
   have:=hf.chg (c:=.gone nm) (by show (findP nm _).isSome=true;cases e:findP nm (failP p).2.now with | none=>exact absurd e h2 | some x=>rfl) (by simp [Ch.ids]) [] (.inl ⟨rfl,rfl⟩)
   simpa using this
theorem WF.rename {p:DP} (h:WF p) (a b:ByteArray):WF (renameP p a b).2:=by
 have hf:=h.fail
 simp only [renameP]
 split
 ·exact hf
 ·split
  ·exact hf
  ·split
   ·exact hf
   ·rename_i h1 h2 h3
    have:=hf.chg (c:=.moved a b) ⟨by cases e:findP a (failP p).2.now with | none=>exact absurd e h2 | some x=>rfl,by simpa using h3⟩ (by simp [Ch.ids]) [] (.inl ⟨rfl,rfl⟩)
    simpa using this
theorem WF.files_set {p:DP} (h:WF p) {id:Nat} {l:List ByteArray} (hl:l.length≤4096∧∀ s∈l,s.size=64) (hge:(p.file id).length≤l.length) (hid:id<p.files.length):WF {p with files:=p.files.set id l}:=by
 refine ⟨h.dir,h.chs,fun i hi=>by simpa using h.ids i hi,fun x hx=>?_,fun m hm=>?_,h.room⟩
 ·have:=h.wrs x hx
  refine ⟨?_,this.2⟩
  show x.n<((p.files.set id l).getD x.id []).length
  rw [file_set p id l x.id hid]
  by_cases e:x.id=id
  ·rw [if_pos e];have h1:=this.1;rw [e] at h1;omega
  ·rw [if_neg e];exact this.1
 ·rcases List.mem_or_eq_of_mem_set hm with h1 | h1
  ·exact h.files m h1
  ·rw [h1];exact hl
theorem WF.file_ok {p:DP} (h:WF p) (i:Nat):(p.file i).length≤4096∧∀ s∈p.file i,s.size=64:=by
 unfold DP.file
 rw [List.getD_eq_getElem?_getD]
 cases e:p.files[i]? with
 | none=>simp
 | some l=>exact h.files l (List.mem_of_getElem? e)
theorem putW_ok (i:Nat) (x:PW) (hx:x.s.size=64) {l:List ByteArray} (h:∀ s∈l,s.size=64):∀ s∈putW i l x,s.size=64:=by
 unfold putW
 split
 ·intro s hs
  rcases List.mem_or_eq_of_mem_set hs with h1 | h1
  ·exact h s h1
  ·rw [h1];exact hx
 ·exact h
theorem foldW_ok (i:Nat):∀ (ws:List PW) (l:List ByteArray),(∀ x∈ws,x.s.size=64)→(∀ s∈l,s.size=64)→∀ s∈ws.foldl (putW i) l,s.size=64
 | [],l,_,h=>h
 | x::ws,l,hw,h=>foldW_ok i ws (putW i l x) (fun y hy=>hw y (List.mem_cons_of_mem _ hy)) (putW_ok i x (hw x List.mem_cons_self) h)
theorem WF.cont_ok {p:DP} (h:WF p) (i:Nat):(p.cont i).length≤4096∧∀ s∈p.cont i,s.size=64 :=
 ⟨by rw [DP.cont_len];exact (h.file_ok i).1,foldW_ok i p.wrs _ (fun x hx=>(h.wrs x hx).2) (h.file_ok i).2⟩
theorem zeroS_size:zeroS.size=64:=by decide
theorem WF.grow {p:DP} (h:WF p) (nm:ByteArray) (n:Int):WF (growP p nm n).2:=by
 have hf:=h.fail
 simp only [growP]
 split
 ·exact hf
 ·split
  ·exact hf
  ·rename_i id he
   split
   ·exact hf
   ·split
    ·exact hf
    ·rename_i h1 h2 h3
     obtain ⟨_,hid⟩:=hf.find he
     refine hf.files_set ⟨?_,?_⟩ (by simp) hid
     ·simp;omega
     ·intro s hs
      rcases List.mem_append.1 hs with h4 | h4
      ·exact (hf.file_ok id).2 s h4
      ·rw [(List.mem_replicate.1 h4).2];exact zeroS_size
theorem WF.write {p:DP} (h:WF p) (nm:ByteArray) (n:Int) (s:ByteArray):WF (writeP p nm n s).2:=by
 have hf:=h.fail
 simp only [writeP]
 split
 ·exact hf
 ·split
  ·exact hf
  ·rename_i id he
   split
   ·exact hf
   ·split
    ·exact hf
    ·rename_i h1 h2 h3
     obtain ⟨hl,hid⟩:=hf.find he
     refine ⟨hf.dir,hf.chs,fun i hi=>?_,fun x hx=>?_,hf.files,hf.room⟩
     ·simp only [DP.live,List.map_append,List.mem_append,List.map_cons,List.map_nil,List.mem_singleton] at hi
      rcases hi with hi | hi | hi
      ·exact hf.ids i (by simp only [DP.live,List.mem_append];exact .inl hi)
      ·exact hf.ids i (by simp only [DP.live,List.mem_append];exact .inr hi)
      ·rw [hi];exact hid
     ·rcases List.mem_append.1 hx with hx | hx
      ·exact hf.wrs x hx
      ·obtain rfl:=List.mem_singleton.1 hx
       exact ⟨by show n.toNat<((failP p).2.file id).length;omega,by simpa using h3⟩
theorem WF.sync {p:DP} (h:WF p) (nm:ByteArray):WF (syncP p nm).2:=by
 have hf:=h.fail
 simp only [syncP]
 split
 ·exact hf
 ·split
  ·exact hf
  ·rename_i id he
   obtain ⟨hl,hid⟩:=hf.find he
   have h1:=hf.files_set (hf.cont_ok id) (by rw [DP.cont_len];exact Nat.le_refl _) hid
   refine ⟨h1.dir,h1.chs,fun i hi=>h1.ids i ?_,fun x hx=>h1.wrs x (List.mem_filter.1 hx).1,h1.files,h1.room⟩
   simp only [DP.live,List.mem_append] at hi ⊢
   rcases hi with hi | hi
   ·exact .inl hi
   ·obtain ⟨y,hy,rfl⟩:=List.mem_map.1 hi
    exact .inr (List.mem_map.2 ⟨y,(List.mem_filter.1 hy).1,rfl⟩)
theorem WF.syncdir {p:DP} (h:WF p):WF (syncdirP p).2:=by
 have hf:=h.fail
 simp only [syncdirP]
 split
 ·exact hf
 ·refine ⟨hf.now,trivial,fun i hi=>?_,hf.wrs,hf.files,hf.room⟩
  simp only [DP.live,List.mem_append,List.flatMap_nil,List.append_nil] at hi
  rcases hi with hi | hi
  ·obtain ⟨e,he,rfl⟩:=List.mem_map.1 hi
   exact hf.ids _ (DP.now_live _ e he)
  ·exact hf.ids i (by simp only [DP.live,List.mem_append];exact .inr hi)
theorem WF.arm {p:DP} (h:WF p) (a c:Int):WF (armP p a c):=⟨h.dir,h.chs,h.ids,h.wrs,h.files,h.room⟩
theorem keepW_ok {fs:List (List ByteArray)} {x:PW} (hx:x.s.size=64) (h:∀ l∈fs,l.length≤4096∧∀ s∈l,s.size=64):∀ l∈keepW fs x,l.length≤4096∧∀ s∈l,s.size=64:=by
 intro l hl
 unfold keepW at hl
 obtain ⟨i,hi⟩:=List.getElem?_of_mem hl
 rw [List.getElem?_modify] at hi
 cases e:fs[i]? with
 | none=>rw [e] at hi;simp at hi
 | some m =>
  rw [e] at hi
  have hm:=h m (List.mem_of_getElem? e)
  by_cases hxi:x.id=i
  ·simp only [hxi,if_true] at hi
   cases hi
   refine ⟨by simpa using hm.1,fun s hs=>?_⟩
   rcases List.mem_or_eq_of_mem_set hs with h1 | h1
   ·exact hm.2 s h1
   ·rw [h1];exact hx
  ·simp only [hxi,if_false] at hi
   cases hi;exact hm
theorem crashW_ok (keep:List Int):∀ (l:List PW) (i:Nat) (fs:List (List ByteArray)),(∀ x∈l,x.s.size=64)→(∀ m∈fs,m.length≤4096∧∀ s∈m,s.size=64)→∀ m∈crashW keep i l fs,m.length≤4096∧∀ s∈m,s.size=64
 | [],i,fs,_,h=>h
 | x::l,i,fs,hx,h=>by
  unfold crashW
  refine crashW_ok keep l (i+1) _ (fun y hy=>hx y (List.mem_cons_of_mem _ hy)) ?_
  split
  ·exact keepW_ok (hx x List.mem_cons_self) h
  ·exact h
theorem WF.crash {p:DP} (h:WF p) (n:Int) (keep:List Int):WF (crashP p n keep):=by
 refine ⟨h.dir.fold (okChs_take _ h.chs),trivial,fun i hi=>?_,fun x hx=>(by cases hx),crashW_ok keep p.wrs 0 p.files (fun x hx=>(h.wrs x hx).2) h.files,h.room⟩
 show i<(crashW keep 0 p.wrs p.files).length
 rw [crashW_len]
 simp only [DP.live,crashP,List.mem_append,List.flatMap_nil,List.append_nil,List.map_nil,List.not_mem_nil,or_false] at hi
 obtain ⟨e,he,rfl⟩:=List.mem_map.1 hi
 refine h.ids _ ?_
 have:=fold_ids e he
 simp only [DP.live,List.mem_append]
 rcases List.mem_append.1 this with h1 | h1
 ·exact .inl (.inl h1)
 ·obtain ⟨c,hc,hce⟩:=List.mem_flatMap.1 h1
  exact .inl (.inr (List.mem_flatMap.2 ⟨c,List.mem_of_mem_take hc,hce⟩))
theorem WF.new {room:Int} (h:0≤room∧room≤4096):WF (newP room) :=
 ⟨⟨by simp [newP,names],by simp [newP],by simp [newP]⟩,trivial,by simp [newP,DP.live],by simp [newP],by simp [newP],h⟩
end
end Go.Proofs.YtekajggjoeimoaaGreatDoor
