/- A part of the proof of DiskSaves. No condition of its own. -/
import Derived.Test.YtekajggjoeimoaaGreatDoorSp
import Derived.Test.YtekajggjoeimoaaGreatDoorSo
import Derived.Test.YtekajggjoeimoaaGreatDoorSn
import Derived.ProofKit
import Derived.OpenShut
import Derived.ChangeOld
import Derived.Deep.Slices
import Derived.Deep.Fields
import Derived.ChangeSame
import Derived.Lib.SmallJoins
import Derived.SizedLaws
set_option linter.unusedVariables false
namespace Go.Proofs.YtekajggjoeimoaaGreatDoor
section
open Go.RowKit Go.Sort
def opLoad:ByteArray:=⟨#[108,111,97,100]⟩
def LoadR (room:Int) (b:List UInt8) (w:World) (e:Ending) (w':World):Prop :=
 ((∃ db y,loadP room b=(some y,0)∧e=.returned (.tuple #[.pointer (some ⟨db,0,none⟩),.nilIface])∧PD (fun k=>w.heap.size≤k) w' db y)∨(∃ k v,loadP room b=(none,k)∧k≠0∧e=.returned (.tuple #[.pointer none,v])∧ErrAt w.heap.size w' opLoad ByteArray.empty k v))∧Below w.heap.size w w'
def slLen (w:World) (a:Addr):Nat:=match w.cell? a with
 | some (.slice _ n _)=>n
 | _=>0
theorem slLen_of {w:World} {a:Addr} {A:Option Addr} {n c:Nat} (h:w.cell? a=some (.slice A n c)):slLen w a=n:=by unfold slLen;rw [h]
theorem mapLen {w:World} {M:Nat} {l:List DE} {ck:Nat} (hM:w.heap[M]?=some (.map (l.map DE.ent).toArray ck)) (ty:TypeId):(Builtin.len_ #[62] ty #[.map (some M)]).run Tryz.prog w=.ok (.int .i64 l.length) w:=by
 simp [Builtin.len_,run_underlying Tryz.underlying62,getMap hM,goInt,Result.andThen]
theorem own_mapL {w w1:World} {M:Nat} {es:Array MapEntry} {ck B e size n:Nat} {v:Value} {xs:List Value} (h:w.ownsRow B e size v n xs) (hm:MapTo w w1 M es ck) (hB:M<B):w1.ownsRow B e size v n xs :=
 ⟨h.1,h.2.imp id fun ⟨g,cap,cur,e1,e2,e3,r⟩=>⟨g,cap,cur,e1,e2,(hm.block g (by omega)).trans e3,r⟩⟩
theorem blk_mapL {w w1:World} {M:Nat} {es:Array MapEntry} {ck k t:Nat} {cs:Array Value} (h:Blk w k t cs) (hm:MapTo w w1 M es ck) (hk:k≠M):Blk w1 k t cs:=(hm.block k hk).trans h
def LdRel (B:Nat) (room:Int) (b:List UInt8) (w0:World) (db lb:Nat) (wr:World):Prop :=
 ∃ ls last b' A' c',LdOK b ls last b'∧b'.length≤900000∧PD (fun k=>B≤k∧k≠lb) wr db (mkP room ls)∧Blk wr lb 114 #[.slice A' b'.length c',.string ⟨last.toArray⟩,.int .i64 (sumF ls:Nat)]∧Reads wr B 1 A' b'.length (bl b')∧b'.length≤c'∧Below B w0 wr
set_option maxHeartbeats 16000000 in
set_option maxRecDepth 100000 in
theorem VLoad_0 {room:Int} (hr:0≤room∧room≤4096) {A:Option Addr} {c:Nat} {b:List UInt8} {w:World} (hrd:Reads w w.heap.size 1 A b.length (bl b)) (hc:b.length≤c) (h9:b.length≤900000) :
 Calls Tryz.prog 17 #[.int .i64 room,.slice A b.length c] w (LoadR room b w):=by
 go_enter Tryz.func17,Tryz.ntmps17
 go_wp2_with (go_at_call 9;refine (new_go w hr).mono ?_;rintro e w1 ⟨⟨db,rfl,hP⟩,hb1⟩)
 have hlb:w.heap.size≤w1.heap.size:=hb1.size
 have hP1:PD (fun k=>w.heap.size≤k∧k≠w1.heap.size) w1 db (newP room):=hP.only.more (fun k hk=>⟨hk.1,by have:=hk.2.lt;omega⟩)
 have hA1:Below w1.heap.size w1 (w1.alloc (.cells #[.slice A b.length c,.string ByteArray.empty,.int .i64 0] 114)):=(Below.refl _ w1).alloc (Nat.le_refl _) _
 have hP2:=hP1.off (FrF.of_below (X:=fun _=>False) hA1) (fun _ _ h=>h)
 have hL2:=Blk.new w1 114 #[.slice A b.length c,.string ByteArray.empty,.int .i64 0]
 have hB2:Below w.heap.size w (w1.alloc (.cells #[.slice A b.length c,.string ByteArray.empty,.int .i64 0] 114)):=hb1.trans (hA1.mono hlb)
 clear hP hP1 hA1 hb1
 go_loopw [9,10] (fun _ _ wr=>LdRel w.heap.size room b w db w1.heap.size wr) (fun _ _ wr=>slLen wr ⟨w1.heap.size,0,none⟩)
 case atStart=>exact ⟨[],[],b,A,c,LdOK.start b,h9,hP2,hL2,hrd.below hB2,hc,hB2⟩
 case round =>
  clear hP2 hL2 hB2
  obtain ⟨ls,last,b',A',c',hL,h9',hP,hBl,hR,hc',hB⟩:=hrel
  obtain ⟨wo,rfl⟩:∃ wo,wo=wr:=⟨wr,rfl⟩
  have c0:wo.cell? ⟨w1.heap.size,0,none⟩=some (.slice A' b'.length c'):=hBl.cell 0
  have c2:wo.cell? ⟨w1.heap.size,2,none⟩=some (.int .i64 (sumF ls:Nat)):=hBl.cell 2
  have hsum:=hL.fl.sum
  have hsl:=slLen_of c0
  by_cases h0:0<b'.length
  ·have d1:decide ((0:Int)<(b'.length:Int))=true:=by simp;omega
   have d1':decide (0<b'.length)=true:=by simpa using h0
   cases ht:takeF last 0 b' with
   | none =>
    have hX:loadP room b=(none,44):=by
     unfold loadP
     rw [if_neg (by omega),hL.none h0 (.inl ht)]
    have hF:=LFile_none hBl hlb hR hc' h9' ht
    have HH:=Lib.hid (And.intro hX hB)
    clear hX hP hBl hR hB hL
    go_wp2_with (first
     | (go_at_call 54;refine hF.mono ?_;rintro e w6 ⟨rfl,hf6⟩)
     | (go_at_call 29;refine (fault_any _ _ _ _).mono ?_;rintro e w7 ⟨⟨v,rfl,hv⟩,hb7⟩))
    go_ret2
    obtain ⟨hX,hB⟩:=HH.out
    have s1:=hB.size
    have hb6:=fr_below hf6 (fun j hj=>by subst hj;exact hlb) s1
    exact ⟨.inr ⟨44,v,hX,by decide,rfl,hv.mono (Nat.le_trans s1 hf6.size)⟩,(hB.trans hb6).trans (hb7.mono (Nat.le_trans s1 hf6.size))⟩
   | some xr =>
    obtain ⟨x,r⟩:=xr
    have hF:=LFile_take hBl hlb hR hc' h9' (u:=(sumF ls:Nat)) (by omega) ht
    obtain ⟨M1,M2,v3,v4,q,fs,V,C,fb,hD,hFl,hT⟩:=hP
    have hlw:=hBl.lt
    have hM1:M1<wo.heap.size:=(Array.getElem?_eq_some_iff.1 hD.m1).1
    have hM2:M2<wo.heap.size:=(Array.getElem?_eq_some_iff.1 hD.m2).1
    have n1:M1≠w1.heap.size:=hD.inX1.2
    have n2:M2≠w1.heap.size:=hD.inX2.2
    have n0:db≠w1.heap.size:=hD.inX.2
    have hlenD:q.dir.length=ls.length:=by rw [hT.lenD];exact dirF_len 0 ls
    have hdm1:db≠M1:=fun e=>hD.m1_ne e.symm
    have hdm2:db≠M2:=fun e=>hD.m2_ne e.symm
    by_cases h8:8≤ls.length
    ·have hX:loadP room b=(none,44):=by
      unfold loadP
      rw [if_neg (by omega),hL.none h0 (.inr h8)]
     have d8:decide ((8:Int)≤(ls.length:Int))=true:=by simp;omega
     have HH:=Lib.hid (And.intro hX (And.intro hB hD))
     clear hX hBl hR hB hL hD hFl hT
     go_wp2_with (first
      | (go_at_call 54;refine hF.mono ?_;rintro e w6 ⟨f,v0,v5,A6,c6,rfl,hfw,hbf,ho0,ho1,hne,hl6,hr6,hc6,hf6⟩;have k1:w6.cell? ⟨db,1,none⟩=some (.map (some M1)):=(show Blk w6 db 66 _ from (hf6.block db HH.out.2.2.blk.lt n0).trans HH.out.2.2.blk).cell 1;have hml:=mapLen ((hf6.block M1 hM1 n1).trans HH.out.2.2.m1);rw [hlenD] at hml)
      | (go_at_call 29;refine (fault_any _ _ _ _).mono ?_;rintro e w7 ⟨⟨v,rfl,hv⟩,hb7⟩))
     go_ret2
     obtain ⟨hX,hB,_⟩:=HH.out
     have s1:=hB.size
     have hb6:=fr_below hf6 (fun j hj=>by subst hj;exact hlb) s1
     exact ⟨.inr ⟨44,v,hX,by decide,rfl,hv.mono (Nat.le_trans s1 hf6.size)⟩,(hB.trans hb6).trans (hb7.mono (Nat.le_trans s1 hf6.size))⟩
    ·obtain ⟨hN,hrl⟩:=hL.next ht (by omega)
     have d8:decide ((8:Int)≤(ls.length:Int))=false:=by simp;omega
     have lk1:lkF ⟨x.1.toArray⟩ q.dir=none:=by rw [hT.dir];show Option.map fb (findP _ (dirF 0 ls))=none;rw [hN.fl.fresh];rfl
     have lk2:lkF ⟨x.1.toArray⟩ q.now=none:=by rw [hT.now];show Option.map fb (findP _ (dirF 0 ls))=none;rw [hN.fl.fresh];rfl
     have HB:=Lib.hid hBl
     have HH:=Lib.hid (And.intro hB (And.intro hD (And.intro hFl (And.intro hT hN))))
     clear hBl hR hB hL hD hFl hT hN
     go_wp2_with (go_at_call 54;refine hF.mono ?_;rintro e w6 ⟨f,v0,v5,A6,c6,rfl,hfw,hbf,ho0,ho1,hne,hl6,hr6,hc6,hf6⟩;have k1:w6.cell? ⟨db,1,none⟩=some (.map (some M1)):=(show Blk w6 db 66 _ from (hf6.block db HH.out.2.1.blk.lt n0).trans HH.out.2.1.blk).cell 1;have hml:=mapLen ((hf6.block M1 hM1 n1).trans HH.out.2.1.m1);rw [hlenD] at hml)
     obtain ⟨hB,hD,hFl,hT,hN⟩:=HH.out
     have m1':w6.drew.heap[M1]?=some (.map (q.dir.map DE.ent).toArray q.dck):=(hf6.block M1 hM1 n1).trans hD.m1
     have m2':w6.drew.heap[M2]?=some (.map (q.now.map DE.ent).toArray q.nck):=(hf6.block M2 hM2 n2).trans hD.m2
     obtain ⟨wa,ra,hMa⟩:=run_entry m1' (lkF_none lk1)
     obtain ⟨wb,rb,hMb⟩:=run_entryStore f hT.ok1 hMa.map
     obtain ⟨wc,rc,hMc⟩:=run_entry (((hMb.block M2 hD.ne.symm).trans (hMa.block M2 hD.ne.symm)).trans m2') (lkF_none lk2)
     obtain ⟨wd,rd,hMd⟩:=run_entryStore f hT.ok2 hMc.map
     have bd6:Blk w6.drew db 66 _:=(hf6.block db hD.blk.lt n0).trans hD.blk
     have bda:=blk_mapL bd6 hMa hdm1
     have bdb:=blk_mapL bda hMb hdm1
     have bdc:=blk_mapL bdb hMc hdm2
     have bl6:Blk w6.drew w1.heap.size 114 _:=hl6
     have bla:=blk_mapL bl6 hMa n1.symm
     have blb:=blk_mapL bla hMb n1.symm
     have blc:=blk_mapL blb hMc n2.symm
     have bld:=blk_mapL blc hMd n2.symm
     obtain ⟨nm,hnm⟩:∃ nm:ByteArray,(⟨x.1.toArray⟩:ByteArray)=nm:=⟨_,rfl⟩
     rw [hnm] at ra rc hMa hMb hMc hMd bl6 bla blb blc bld
     have s1:w6.drew.cell? ⟨db,1,none⟩=some (.map (some M1))∧w6.drew.cell? ⟨db,2,none⟩=some (.map (some M2))∧w6.drew.cell? ⟨w1.heap.size,1,none⟩=some (.string nm):=⟨bd6.cell 1,bd6.cell 2,bl6.cell 1⟩
     have sa:wa.cell? ⟨db,1,none⟩=some (.map (some M1))∧wa.cell? ⟨db,2,none⟩=some (.map (some M2))∧wa.cell? ⟨w1.heap.size,1,none⟩=some (.string nm):=⟨bda.cell 1,bda.cell 2,bla.cell 1⟩
     have sb:wb.cell? ⟨db,1,none⟩=some (.map (some M1))∧wb.cell? ⟨db,2,none⟩=some (.map (some M2))∧wb.cell? ⟨w1.heap.size,1,none⟩=some (.string nm):=⟨bdb.cell 1,bdb.cell 2,blb.cell 1⟩
     have sc:wc.cell? ⟨db,1,none⟩=some (.map (some M1))∧wc.cell? ⟨db,2,none⟩=some (.map (some M2))∧wc.cell? ⟨w1.heap.size,1,none⟩=some (.string nm):=⟨bdc.cell 1,bdc.cell 2,blc.cell 1⟩
     have HA:=Lib.hid (And.intro hMa (And.intro hMb (And.intro hMc (And.intro hMd (And.intro bld hnm)))))
     clear hMa hMb hMc hMd bld hnm bda bdb bdc bla blb blc bd6 bl6 m1' m2' hB hD hFl hT hN
     refine regionE 23 (fun W0=>W0.cell? ⟨db,1,none⟩=some (.map (some M1))∧W0.cell? ⟨db,2,none⟩=some (.map (some M2))∧W0.cell? ⟨w1.heap.size,1,none⟩=some (.string nm)) (by kernel_rfl) (by kernel_rfl) (by kernel_rfl) (by kernel_rfl) (by kernel_rfl) (s1) (fun hHeld hTl=>?_)
     refine tkT 0 (v:=?_) hTl hHeld rfl ?_ (fun hTl=>?_);rotate_left
     ·intro w hSw;(try dsimp only at hSw);go_simp;all_goals with_reducible rfl
     try simp only [pT]
     refine tkT 1 (v:=?_) hTl hHeld rfl ?_ (fun hTl=>?_);rotate_left
     ·intro w hSw;(try dsimp only at hSw);go_simp;all_goals with_reducible rfl
     try simp only [pT]
     refine tkT 2 (v:=?_) hTl hHeld rfl ?_ (fun hTl=>?_);rotate_left
     ·intro w hSw;(try dsimp only at hSw);go_simp;all_goals with_reducible rfl
     try simp only [pT]
     refine tkT 3 (v:=?_) hTl hHeld rfl ?_ (fun hTl=>?_);rotate_left
     ·intro w hSw;(try dsimp only at hSw);go_simp;all_goals with_reducible rfl
     try simp only [pT]
     refine tkT 4 (v:=?_) hTl hHeld rfl ?_ (fun hTl=>?_);rotate_left
     ·intro w hSw;(try dsimp only at hSw);go_simp;all_goals with_reducible rfl
     try simp only [pT]
     refine tkT 5 (v:=?_) hTl hHeld rfl ?_ (fun hTl=>?_);rotate_left
     ·intro w hSw;(try dsimp only at hSw);go_simp;all_goals with_reducible rfl
     try simp only [pT]
     refine tkT 6 (v:=?_) hTl hHeld rfl ?_ (fun hTl=>?_);rotate_left
     ·intro w hSw;(try dsimp only at hSw);go_simp;all_goals with_reducible rfl
     try simp only [pT]
     refine tkT 7 (v:=?_) hTl hHeld rfl ?_ (fun hTl=>?_);rotate_left
     ·intro w hSw;(try dsimp only at hSw);go_simp;all_goals with_reducible rfl
     try simp only [pT]
     refine tkT 8 (v:=?_) hTl hHeld rfl ?_ (fun hTl=>?_);rotate_left
     ·intro w hSw;(try dsimp only at hSw);go_simp;all_goals with_reducible rfl
     try simp only [pT]
     refine tkT 9 (v:=?_) hTl hHeld rfl ?_ (fun hTl=>?_);rotate_left
     ·intro w hSw;(try dsimp only at hSw);go_simp;all_goals with_reducible rfl
     try simp only [pT]
     refine tkT 10 (v:=?_) hTl hHeld rfl ?_ (fun hTl=>?_);rotate_left
     ·intro w hSw;(try dsimp only at hSw);go_simp;all_goals with_reducible rfl
     try simp only [pT]
     refine tkT 11 (v:=?_) hTl hHeld rfl ?_ (fun hTl=>?_);rotate_left
     ·intro w hSw;(try dsimp only at hSw);go_simp;all_goals with_reducible rfl
     try simp only [pT]
     refine tkT 12 (v:=?_) hTl hHeld rfl ?_ (fun hTl=>?_);rotate_left
     ·intro w hSw;(try dsimp only at hSw);go_simp;all_goals with_reducible rfl
     try simp only [pT]
     refine tkT 13 (v:=?_) hTl hHeld rfl ?_ (fun hTl=>?_);rotate_left
     ·intro w hSw;(try dsimp only at hSw);go_simp;all_goals with_reducible rfl
     try simp only [pT]
     refine tkT 14 (v:=?_) hTl hHeld rfl ?_ (fun hTl=>?_);rotate_left
     ·intro w hSw;(try dsimp only at hSw);go_simp;all_goals with_reducible rfl
     try simp only [pT]
     refine tkT 15 (v:=?_) hTl hHeld rfl ?_ (fun hTl=>?_);rotate_left
     ·intro w hSw;(try dsimp only at hSw);go_simp;all_goals with_reducible rfl
     try simp only [pT]
     refine tkT 16 (v:=?_) hTl hHeld rfl ?_ (fun hTl=>?_);rotate_left
     ·intro w hSw;(try dsimp only at hSw);go_simp;all_goals with_reducible rfl
     try simp only [pT]
     refine tkT 17 (v:=?_) hTl hHeld rfl ?_ (fun hTl=>?_);rotate_left
     ·intro w hSw;(try dsimp only at hSw);go_simp;all_goals with_reducible rfl
     try simp only [pT]
     clear hTl
     refine oneE 18 rfl (by kernel_rfl) (fun K hK=>?_)
     go_simp
     refine hK.out _ _ (fun _=>sa) ?_
     clear hK K
     try simp only [pT]
     refine oneE 19 rfl (by kernel_rfl) (fun K hK=>?_)
     go_simp
     refine hK.out _ _ (fun _=>sa) ?_
     clear hK K
     try simp only [pT]
     refine oneE 20 rfl (by kernel_rfl) (fun K hK=>?_)
     go_simp
     refine hK.out _ _ (fun _=>sb) ?_
     clear hK K
     try simp only [pT]
     refine oneE 21 rfl (by kernel_rfl) (fun K hK=>?_)
     go_simp
     refine hK.out _ _ (fun _=>sc) ?_
     clear hK K
     try simp only [pT]
     refine oneE 22 rfl (by kernel_rfl) (fun K hK=>?_)
     go_simp
     refine hK.out _ _ (fun _=>sc) ?_
     clear hK K
     try simp only [pT]
     refine oneE 23 rfl (by kernel_rfl) (fun K hK=>?_)
     go_simp
     refine hK.out _ _ (fun h=>absurd h (by decide)) ?_
     clear hK K
     try simp only [pT]
     refine doneE (by kernel_rfl) ?_ _
     go_wp2
     go_roundw
     case rel =>
      obtain ⟨hB,hD,hFl,hT,hN⟩:=HH.out
      obtain ⟨hMa,hMb,hMc,hMd,bld,hnm⟩:=HA.out
      have z1:=hB.size
      have z6:=hf6.size
      have hxM:∀ k,k≠w1.heap.size→k≠M1→k≠M2→k<wo.heap.size→wd.heap[k]?=wo.heap[k]?:=fun k e0 e1 e2 hk=>(hMd.block k e2).trans ((hMc.block k e2).trans ((hMb.block k e1).trans ((hMa.block k e1).trans (hf6.block k hk e0))))
      have q1:w.heap.size≤M1:=hD.inX1.1
      have q2:w.heap.size≤M2:=hD.inX2.1
      have bA:Below w.heap.size w6 wd:=by
       have g0:Below w.heap.size w6 w6.drew:=(Below.refl _ w6).drew
       have ga:=fr_below hMa.fr (fun j hj=>by subst hj;exact q1) (Nat.le_trans z1 z6)
       have gb:=fr_below hMb.fr (fun j hj=>by subst hj;exact q1) (by rw [hMa.size];exact Nat.le_trans z1 z6)
       have gc:=fr_below hMc.fr (fun j hj=>by subst hj;exact q2) (by rw [hMb.size,hMa.size];exact Nat.le_trans z1 z6)
       have gd:=fr_below hMd.fr (fun j hj=>by subst hj;exact q2) (by rw [hMc.size,hMb.size,hMa.size];exact Nat.le_trans z1 z6)
       exact (((g0.trans ga).trans gb).trans gc).trans gd
      have fM1:f≠M1:=by omega
      have fM2:f≠M2:=by omega
      have hbf':Blk wd f 103 #[v0,v5]:=blk_mapL (blk_mapL (blk_mapL (blk_mapL (show Blk w6.drew f 103 _ from hbf) hMa fM1) hMb fM1) hMc fM2) hMd fM2
      have ho0':=own_mapL (own_mapL (own_mapL (own_mapL (w:=w6.drew) ho0 hMa hM1) hMb hM1) hMc hM2) hMd hM2
      have ho1':=own_mapL (own_mapL (own_mapL (own_mapL (w:=w6.drew) ho1 hMa hM1) hMb hM1) hMc hM2) hMd hM2
      have e1:=(hMd.block M1 hD.ne).trans ((hMc.block M1 hD.ne).trans hMb.map)
      have e2:=hMd.map
      rw [←hnm] at e1 e2
      refine ⟨ls++[x],x.1,r,A6,c6,hN,by omega,PD.add hN.fl hr (fun k hk=>⟨by omega,by omega⟩) hD hFl hT (fun k cs t ht hk=>?_) e1 e2 hbf' hfw ho0' ho1' hne,?_,hr6.below bA,hc6,(hB.trans (fr_below hf6 (fun j hj=>by subst hj;exact hlb) z1)).trans bA⟩
      ·have hkl:=(Array.getElem?_eq_some_iff.1 hk).1
       refine (hxM k (fun e=>?_) (fun e=>?_) (fun e=>?_) hkl).trans hk
       ·subst e
        have h1:=HB.out
        unfold Blk at h1
        rw [hk] at h1
        cases h1
        rcases ht with (h | h) | (h | h | h) <;> revert h <;> decide
       ·subst e;rw [hD.m1] at hk;cases hk
       ·subst e;rw [hD.m2] at hk;cases hk
      ·rw [hnm,sumF_append]
       exact bld
     case measure =>
      have hq:=(HA.out.2.2.2.2.1).cell 0
      rw [hsl,slLen_of hq]
      exact hrl
  ·obtain rfl:b'=[]:=List.eq_nil_of_length_eq_zero (by omega)
   have d1:decide ((0:Int)<(([]:List UInt8).length:Int))=false:=by simp
   have hL':=hL.done
   by_cases hfull:room<(sumF ls:Nat)
   ·have hX:loadP room b=(none,42):=by
     unfold loadP
     rw [if_neg (by omega),hL']
     simp only
     rw [if_pos hfull]
    have d2:decide (room<(sumF ls:Nat))=true:=by simpa using hfull
    have HH:=Lib.hid (And.intro hX hB)
    clear hX hP hBl hR hB hL hL' hfull
    go_wp2_with (go_at_call 29;refine (fault_any _ _ _ _).mono ?_;rintro e w7 ⟨⟨v,rfl,hv⟩,hb7⟩)
    go_ret2
    obtain ⟨hX,hB⟩:=HH.out
    have s1:=hB.size
    exact ⟨.inr ⟨42,v,hX,by decide,rfl,hv.mono s1⟩,hB.trans (hb7.mono s1)⟩
   ·have hX:loadP room b=(some (mkP room ls),0):=by
     unfold loadP
     rw [if_neg (by omega),hL']
     simp only
     rw [if_neg hfull]
    have d2:decide (room<(sumF ls:Nat))=false:=by simpa using hfull
    have HH:=Lib.hid (And.intro hX (And.intro hB hP))
    clear hX hP hBl hR hB hL hL' hfull
    go_wp2
    go_ret2
    obtain ⟨hX,hB,hP⟩:=HH.out
    exact ⟨.inl ⟨db,_,hX,rfl,hP.more (fun k hk=>hk.1)⟩,hB⟩
end
section
open Go.RowKit
open Ev (ev CX AS AObj st1 c3 noCnv VRel LRel Hands hBase cxOK globT Fact)
open Da
def cArgs1:List Value:=[.iface 73 (.pointer (some ⟨0,0,none⟩))]
set_option maxRecDepth 1000000 in
theorem code_runs:(codes.all fun k=>isInt k ((ev C1 1000).f 31 cArgs1 (st1 (flt1 k))))=true:=by kernel_rfl
section
variable {op nm:ByteArray}
theorem code_err {w:World} (hg:GlobAt w) {r:Nat} {k:Int} (hk:k∈codes) (hr:w.heap[r]?=some (.cells #[.string op,.string nm,.iface 59 (.int .i64 k)] 77 (0,0))) :
 Calls Tryz.prog 31 #[.iface 73 (.pointer (some ⟨r,0,none⟩))] w fun e w'=>e=.returned (.int .i64 k)∧Fr (fun k=>k=r) w w':=by
 have h:∃ s,(ev C1 1000).f 31 cArgs1 (st1 (flt1 k))=some (.int .i64 k,s):=by
  have h:=List.all_eq_true.1 code_runs k hk
  unfold isInt at h
  split at h
  ·rename_i n s hr;exact ⟨s,by rw [hr,of_decide_eq_true h]⟩
  ·cases h
 obtain ⟨s,hs⟩:=h
 have hB:1≤r:=by
  rcases Nat.eq_zero_or_pos r with e | e
  ·subst e
   have hb:Blk w 0 77 _:=hr
   have h1:=hb.cell 0
   have hg':w.cell? ⟨0,0,none⟩=_:=hg
   rw [hg'] at h1
   simp at h1
  ·exact e
 refine (Ev.run_one (i:=⟨r,0,3,1,false,3⟩) (c1OK (op:=op) (nm:=nm)) hs (Ev.or_three hr (.tok 0 rfl) (.tok 1 rfl) (.iface _ _ _ (.plain _ rfl))) hB (Array.getElem?_eq_some_iff.1 hr).1 (LRel.cons (.iface _ _ _ (.ptr _ _ ⟨rfl,_,rfl,rfl⟩)) (LRel.nil _)) (bs1 hg) rfl).mono ?_
 rintro e w' ⟨v',m',rfl,hv,hf,ho⟩
 exact ⟨by rw [Ev.plain_inv hv rfl],hf⟩
end
set_option maxHeartbeats 4000000 in
set_option maxRecDepth 100000 in
theorem VLoad_any {room:Int} {A:Option Addr} {c:Nat} {b:List UInt8} {w:World} (hg:GlobAt w) (hrd:Reads w w.heap.size 1 A b.length (bl b)) (hc:b.length≤c) (h9:b.length≤900000) :
 Calls Tryz.prog 17 #[.int .i64 room,.slice A b.length c] w (LoadR room b w):=by
 by_cases hr:0≤room∧room≤4096
 ·exact VLoad_0 hr hrd hc h9
 ·have hX:loadP room b=(none,2):=by
   unfold loadP
   rw [if_pos (by omega)]
  go_enter Tryz.func17,Tryz.ntmps17
  go_wp2_with (first
   | (go_at_call 9;refine (new_err w (by omega)).mono ?_;rintro e w1 ⟨⟨v,rfl,hE⟩,hb1⟩;obtain ⟨_,r,hrB,rfl,hr1⟩:=hE.resolve_left (fun h=>absurd h.1 (by decide));have hg1:=hg.below hb1)
   | (go_at_call 31;refine (code_err hg1 (by decide) hr1).mono ?_;rintro e w2 ⟨rfl,hf2⟩)
   | (go_at_call 29;refine (fault_any _ _ _ _).mono ?_;rintro e w7 ⟨⟨v,rfl,hv⟩,hb7⟩))
  go_ret2
  have hb2:Below w.heap.size w w2:=hb1.trans (Fr.below hf2 hb1.size (fun k hk=>by subst hk;exact hrB))
  exact ⟨.inr ⟨2,v,hX,by decide,rfl,hv.mono hb2.size⟩,hb2.trans (hb7.mono hb2.size)⟩
set_option maxHeartbeats 4000000 in
set_option maxRecDepth 100000 in
theorem RLoad_any {room:Int} {A:Option Addr} {c:Nat} {b:List UInt8} {w:World} (hrd:Reads w w.heap.size 1 A b.length (bl b)) (hc:b.length≤c) (h9:b.length≤900000) :
 Calls Tryz.prog 21 #[.int .i64 room,.slice A b.length c] w (RLoadR room b w):=by
 by_cases hr:0≤room∧room≤4096
 ·exact RLoad_0 hr hrd hc h9
 ·have hX:loadP room b=(none,2):=by
   unfold loadP
   rw [if_pos (by omega)]
  go_enter Tryz.func21,Tryz.ntmps21
  go_wp2_with (go_at_call 10;refine (rnew_err w (by omega)).mono ?_;rintro e w1 ⟨rfl,rfl⟩)
  go_ret2
  exact ⟨.inr ⟨2,hX,by decide,rfl⟩,Below.refl _ _⟩
end
section
open Go.RowKit
structure Sane (p:DP):Prop where
 ids:(p.dir.map (·.id)++p.chs.flatMap Ch.ids).Nodup
 len:∀ l∈p.files,l.length≤100
def ghost (p:DP) (a c:Int):DP:={p with after:=a,code:=c}
structure Eqv (p p':DP):Prop where
 armed:p.armed=p'.armed
 eq:∃ a c,p'=ghost p a c∧(p.armed=true→p'=p)
end
section
open Go.RowKit Go.Sort
section
variable {X:Nat→Prop} {w:World} {db:Nat} {p:DP}
end
end
section
open Go.RowKit
open Da
def One (B:Nat) (w:World) (db:Nat) (p:DP) (n:Nat):Prop:=∃ X,Dk X w db p n∧Up B X
def Two (B:Nat) (w:World) (db cb:Nat) (p q:DP) (n m:Nat):Prop:=∃ X1 X2,Dk X1 w db p n∧Dk X2 w cb q m∧Up B X1∧Up B X2∧∀ k,X1 k→¬ X2 k
section
variable {w w':World} {db cb n m n' B:Nat} {p q:DP} {x:Dd} {Ap Ak:Option Addr} {cp ck:Nat}
end
end
section
open Go.RowKit
open Da
theorem own_cap {w:World} {B e size n c:Nat} {A:Option Addr} {xs:List Value} (h:w.ownsRow B e size (.slice A n c) n xs):n≤c:=by
 rcases h.2 with ⟨h1,h2⟩ | ⟨g,cap,cur,h1,_,_,h2,_⟩
 ·omega
 ·simp only [Value.slice.injEq] at h1
  omega
theorem ErrAt.keep {B:Nat} {w w':World} {op nm:ByteArray} {k:Int} {v:Value} (h:ErrAt B w op nm k v) (hb:Below w.heap.size w w'):ErrAt B w' op nm k v :=
 h.imp id fun ⟨h0,r,h1,h2,h3⟩=>⟨h0,r,h1,h2,(hb.block r (Array.getElem?_eq_some_iff.1 h3).1).trans h3⟩
theorem loadP_codes {room:Int} {b:List UInt8} {k:Int} (h:loadP room b=(none,k)):k∈codes:=by
 unfold loadP at h
 split at h
 ·cases h;decide
 ·split at h
  ·cases h;decide
  ·split at h
   ·cases h;decide
   ·cases h
theorem cnt_mkP {room:Int} {l:List Fl} (h:FlOK l):Cnt (mkP room l) 8:=⟨by show (0:Int)≤_;omega,by simp [mkP],by simp [mkP],by show (l.map (·.2)).length≤8;rw [List.length_map];exact h.len⟩
section
variable {w w' w5 w6:World} {db rb n B:Nat} {p y:DP} {room k:Int} {A:Option Addr} {c:Nat} {b:List UInt8}
theorem VLoad_ok (hg:GlobAt w) (hrd:Reads w w.heap.size 1 A b.length (bl b)) (hc:b.length≤c) (h9:b.length≤900000) {e:Int} (hy:loadP room b=(some y,e)) :
 Calls Tryz.prog 17 #[.int .i64 room,.slice A b.length c] w fun e w'=>∃ cb,e=.returned (.tuple #[.pointer (some ⟨cb,0,none⟩),.nilIface])∧PD (fun k=>w.heap.size≤k) w' cb y∧Below w.heap.size w w':=by
 refine (VLoad_any hg hrd hc h9).mono ?_
 rintro e w' ⟨⟨db,y',g1,rfl,g3⟩ | ⟨k,v,g1,_⟩,hb⟩
 ·rw [hy] at g1
  cases g1
  exact ⟨db,rfl,g3,hb⟩
 ·rw [hy] at g1
  cases g1
theorem VLoad_no (hg:GlobAt w) (hrd:Reads w w.heap.size 1 A b.length (bl b)) (hc:b.length≤c) (h9:b.length≤900000) (hy:loadP room b=(none,k)) :
 Calls Tryz.prog 17 #[.int .i64 room,.slice A b.length c] w fun e w'=>∃ v,e=.returned (.tuple #[.pointer none,v])∧ErrAt w.heap.size w' opLoad ByteArray.empty k v∧Below w.heap.size w w':=by
 refine (VLoad_any hg hrd hc h9).mono ?_
 rintro e w' ⟨⟨db,y',g1,_⟩ | ⟨k,v,g1,g2,rfl,g3⟩,hb⟩
 ·rw [hy] at g1
  cases g1
 ·rw [hy] at g1
  cases g1
  exact ⟨v,rfl,g3,hb⟩
theorem RLoad_ok (hrd:Reads w w.heap.size 1 A b.length (bl b)) (hc:b.length≤c) (h9:b.length≤900000) {e:Int} (hy:loadP room b=(some y,e)) :
 Calls Tryz.prog 21 #[.int .i64 room,.slice A b.length c] w fun e w'=>∃ rb,e=.returned (.tuple #[.pointer (some ⟨rb,0,none⟩),.int .i64 0])∧RD (fun k=>w.heap.size≤k) w' rb y∧Below w.heap.size w w':=by
 refine (RLoad_any hrd hc h9).mono ?_
 rintro e w' ⟨⟨db,y',g1,rfl,g3⟩ | ⟨k,g1,_⟩,hb⟩
 ·rw [hy] at g1
  cases g1
  exact ⟨db,rfl,g3,hb⟩
 ·rw [hy] at g1
  cases g1
theorem RLoad_no (hrd:Reads w w.heap.size 1 A b.length (bl b)) (hc:b.length≤c) (h9:b.length≤900000) (hy:loadP room b=(none,k)) :
 Calls Tryz.prog 21 #[.int .i64 room,.slice A b.length c] w fun e w'=>e=.returned (.tuple #[.pointer none,.int .i64 k])∧Below w.heap.size w w':=by
 refine (RLoad_any hrd hc h9).mono ?_
 rintro e w' ⟨⟨db,y',g1,_⟩ | ⟨k,g1,g2,rfl⟩,hb⟩
 ·rw [hy] at g1
  cases g1
 ·rw [hy] at g1
  cases g1
  exact ⟨rfl,hb⟩
theorem both_load {e:Int} (hy:loadP room b=(some y,e)) (h1:PD (fun k=>w.heap.size≤k) w5 db y) (hb5:Below w.heap.size w w5) (h2:RD (fun k=>w5.heap.size≤k) w6 rb y) (hb6:Below w5.heap.size w5 w6):Both w.heap.size w6 db rb y 8:=by
 obtain ⟨l,hl,rfl,_⟩:=loadP_some hy
 exact ⟨_,_,(Dk.only h1 (fun h=>by cases h) (cnt_mkP hl)).off (Fr.of_below (X:=fun _=>False) hb6) (fun _ _ h=>h),fun k hk=>hk.1,Rk.only h2 h1.wf (cnt_mkP hl),fun k hk=>Nat.le_trans hb5.size hk.1⟩
theorem save_both (h:Both B w db rb p n) :
 Calls Tryz.prog 18 #[.pointer (some ⟨db,0,none⟩)] w fun e w'=>∃ v,e=.returned v∧w'.ownsRow w.heap.size 5 1 v (saveP p).length (bl (saveP p))∧Below w.heap.size w w':=by
 obtain ⟨X1,X2,h1,u1,h2,u2⟩:=h
 exact VSave_all h1.pd
theorem rsave_both (h:Both B w db rb p n) (hn:n≤1000) :
 Calls Tryz.prog 20 #[.pointer (some ⟨rb,0,none⟩)] w fun e w'=>∃ v,e=.returned v∧w'.ownsRow w.heap.size 5 1 v (saveP p).length (bl (saveP p))∧Below w.heap.size w w':=by
 obtain ⟨X1,X2,h1,u1,h2,u2⟩:=h
 exact RSave_any (h2.ra hn)
end
end
section
open Go.RowKit
open Da
set_option maxHeartbeats 16000000 in
set_option maxRecDepth 100000 in
theorem saves_any (room other:Int) (A Ab:Option Addr) (c cb:Nat) (ds:List Dm) (b:List UInt8) (w:World) (hg:GlobAt w) (h:DeedsAt w.heap.size w A ds) (hl:ds.length≤9223372036854775807) (hrb:Reads w w.heap.size 1 Ab b.length (bl b)) (hcb:b.length≤cb) (hlb:b.length≤9223372036854775807) :
 Calls Tryz.prog 6 #[.int .i64 room,.slice A ds.length c,.int .i64 other,.slice Ab b.length cb] w fun e w'=>e=.returned (.bool true)∧Below w.heap.size w w':=by
 have h1:=glob_lt hg
 have HB:=Lib.hid hrb
 clear hrb
 go_enter Tryz.func6,Tryz.ntmps6
 go_wp2_with fail
 go_at_call 7
 refine (small_any A c ds w (Nat.le_refl _) h hl).mono ?_
 rintro e w1 ⟨bb,rfl,hb1,hsm⟩
 have hg1:=hg.below hb1
 cases bb
 ·clear hsm
  go_wp2_with (go_at_call 8;refine (live_any hg1).mono ?_;rintro e w2 ⟨rfl,hb2⟩)
  go_ret
  exact ⟨rfl,hb1.trans (hb2.mono hb1.size)⟩
 obtain ⟨hd,hdb⟩:=hsm rfl
 have hd':ds.length≤80:=hd
 have hs1:=hb1.size
 by_cases h8:8000<b.length
 ·have d8:decide ((8000:Int)<(b.length:Int))=true:=by simp;omega
  clear hsm hdb h
  go_wp2_with (go_at_call 8;refine (live_any hg1).mono ?_;rintro e w2 ⟨rfl,hb2⟩)
  go_ret
  exact ⟨rfl,hb1.trans (hb2.mono hb1.size)⟩
 have d8:decide ((8000:Int)<(b.length:Int))=false:=by simp;omega
 have HDB:=Lib.hid (And.intro hdb (And.intro h (And.intro h1 (And.intro hb1 hs1))))
 clear hsm hdb h
 by_cases hr:0≤room∧room≤4096
 ·have hN:=new_go w1 hr
  go_wp2_with (first
   | (go_at_call 9;refine hN.mono ?_;rintro e w2 ⟨⟨db,rfl,hP⟩,hb2⟩)
   | (go_at_call 10;refine (rnew_go w2 hr).mono ?_;rintro e w3 ⟨⟨rb,rfl,hR⟩,hb3⟩))
  have hBo:=(both_new hP hb2 hR hb3).mono hs1
  have hB3:Below w.heap.size w w3:=hb1.trans ((hb2.trans (hb3.mono hb2.size)).mono hs1)
  have hg3:=hg.below hB3
  clear hP hR hN hb1 hb2 hb3 hg1 hs1
  go_loopw [13] (fun i wr=>Below w.heap.size w wr∧GlobAt wr∧∃ (k:Nat) (p:DP),k≤ds.length∧i=.int .i64 k∧Both w.heap.size wr db rb p k) (fun i _=>ds.length-(intOf i).toNat)
  case atStart=>exact ⟨hB3,hg3,0,_,Nat.zero_le _,rfl,hBo⟩
  case round =>
   clear hB3 hg3 hBo
   obtain ⟨hB,hgr,k,p,hk,rfl,hBo⟩:=hrel
   obtain ⟨wo,rfl⟩:∃ wo,wo=wr:=⟨wr,rfl⟩
   by_cases hlt:k<ds.length
   ·have d1:decide (k<ds.length)=true:=by simpa using hlt
    obtain ⟨x,hdk⟩:∃ x,ds[k]?=some x:=⟨_,List.getElem?_eq_getElem hlt⟩
    have hfew:=HDB.out.1 x (List.mem_of_getElem? hdk)
    obtain ⟨ad,rfl,hadl,hX⟩:=(HDB.out.2.1.below hB) k x hdk
    obtain ⟨x,Ap,cp,Ak,ck⟩:=x
    have e0:wo.cell? (ad.add (k*6))=some (.int .i64 x.kind):=hX.c0
    have e1:wo.cell? ⟨(ad.add (k*6)).block,(ad.add (k*6)).off+1,none⟩=some (.string x.a):=hX.c1
    have e2:wo.cell? ⟨(ad.add (k*6)).block,(ad.add (k*6)).off+2,none⟩=some (.string x.b):=hX.c2
    have e3:wo.cell? ⟨(ad.add (k*6)).block,(ad.add (k*6)).off+3,none⟩=some (.int .i64 x.n):=hX.c3
    have e4:wo.cell? ⟨(ad.add (k*6)).block,(ad.add (k*6)).off+4,none⟩=some (.slice Ap x.p.size cp):=hX.c4
    have e5:wo.cell? ⟨(ad.add (k*6)).block,(ad.add (k*6)).off+5,none⟩=some (.slice Ak x.keep.length ck):=hX.c5
    have hadk:(ad.add (k*6)).block<w.heap.size:=by rw [add_block];exact hadl
    have hdo:=do_both hBo (by omega) h1 hB.size hgr hX.rp hX.rk hfew hX.n (cp:=cp) (ck:=ck)
    have hmo:∀ W,Below w.heap.size wo W→Mid w.heap.size W db rb p (doP p x).2.2 k→GlobAt W→_:=fun W hb hM hg=>mo_both (cp:=cp) (ck:=ck) hM (by omega) h1 (Nat.le_trans hB.size hb.size |> fun h=>h) hg (hX.below hb hadk).rp (hX.below hb hadk).rk hfew hX.n
    have HX:=Lib.hid (And.intro hX (And.intro hadk (And.intro hmo hB)))
    clear hX hfew hBo hgr hmo hB
    dsimp only [Dd.val] at hdo
    go_wp2_with (first
     | (go_at_call 12;refine hdo.mono ?_;rintro e w2 ⟨rfl,hM,hg2,hb2⟩;have g0:w2.cell? (ad.add (k*6))=some (.int .i64 x.kind):=(HX.out.1.below hb2 HX.out.2.1).c0;have g1:w2.cell? ⟨(ad.add (k*6)).block,(ad.add (k*6)).off+1,none⟩=some (.string x.a):=(HX.out.1.below hb2 HX.out.2.1).c1;have g2:w2.cell? ⟨(ad.add (k*6)).block,(ad.add (k*6)).off+2,none⟩=some (.string x.b):=(HX.out.1.below hb2 HX.out.2.1).c2;have g3:w2.cell? ⟨(ad.add (k*6)).block,(ad.add (k*6)).off+3,none⟩=some (.int .i64 x.n):=(HX.out.1.below hb2 HX.out.2.1).c3;have g4:w2.cell? ⟨(ad.add (k*6)).block,(ad.add (k*6)).off+4,none⟩=some (.slice Ap x.p.size cp):=(HX.out.1.below hb2 HX.out.2.1).c4;have g5:w2.cell? ⟨(ad.add (k*6)).block,(ad.add (k*6)).off+5,none⟩=some (.slice Ak x.keep.length ck):=(HX.out.1.below hb2 HX.out.2.1).c5)
     | (go_at_call 13;refine (HX.out.2.2.1 _ hb2 hM hg2).mono ?_;rintro e w3 ⟨rfl,hBo3,hg3,hb3⟩))
    go_roundw
    case rel=>exact ⟨(HX.out.2.2.2.trans hb2).trans hb3,hg3,k+1,_,by omega,by go_num,hBo3⟩
    case measure=>simp [intOf];omega
   ·have d1:decide (k<ds.length)=false:=by simpa using hlt
    have hbd:Below wo.heap.size wo wo.drew:=(Below.refl _ wo).drew
    have hBo1:=hBo.below hbd
    have hS1:=save_both hBo1
    obtain ⟨s,hs⟩:∃ s:ByteArray,(⟨(saveP p).toArray⟩:ByteArray)=s:=⟨_,rfl⟩
    have hss:(s.toList != s.toList)=false:=by simp [bne]
    have HT:=Lib.hid (And.intro hBo1 (And.intro (hB.trans (hbd.mono hB.size)) hs))
    clear hBo hBo1 hB
    go_wp2_with fail
    refine regionE 10 (fun _=>True) (by kernel_rfl) (by kernel_rfl) (by kernel_rfl) (by kernel_rfl) (by kernel_rfl) (trivial) (fun hHeld hTl=>?_)
    refine tkT 0 (v:=?_) hTl hHeld rfl ?_ (fun hTl=>?_);rotate_left
    ·intro w hSw;(try dsimp only at hSw);go_simp;all_goals with_reducible rfl
    try simp only [pT]
    refine tkT 1 (v:=?_) hTl hHeld rfl ?_ (fun hTl=>?_);rotate_left
    ·intro w hSw;(try dsimp only at hSw);go_simp;all_goals with_reducible rfl
    try simp only [pT]
    refine tkT 2 (v:=?_) hTl hHeld rfl ?_ (fun hTl=>?_);rotate_left
    ·intro w hSw;(try dsimp only at hSw);go_simp;all_goals with_reducible rfl
    try simp only [pT]
    refine tkT 3 (v:=?_) hTl hHeld rfl ?_ (fun hTl=>?_);rotate_left
    ·intro w hSw;(try dsimp only at hSw);go_simp;all_goals with_reducible rfl
    try simp only [pT]
    refine tkT 6 (v:=?_) hTl hHeld rfl ?_ (fun hTl=>?_);rotate_left
    ·intro w hSw;(try dsimp only at hSw);go_simp;all_goals with_reducible rfl
    try simp only [pT]
    have hTl2:=hTl.step 4 (by kernel_rfl) (by decide)
    clear hTl
    refine oneE 4 rfl (by kernel_rfl) (fun K hK=>?_)
    refine step_callW (by rfl) 18 _ (by go_simp) hS1 ?_
    rintro e w7 ⟨v7,e7,ho7,hb7⟩;subst e7;obtain ⟨A7,c7,rfl⟩:=own_formS ho7;refine ⟨_,rfl,?_⟩
    refine hK.out _ _ (fun _=>trivial) ?_
    clear hK K
    try simp only [pT]
    have hTl:=hTl2
    clear hTl2
    have hk7:∀ W,Below w7.heap.size w7 W→(convert 36 9 (.slice A7 (saveP p).length c7)).run Tryz.prog W=.ok (.string s) W:=fun W hW=>by rw [←hs];exact own_str8 rfl (own_keep ho7 hW) Tryz.underlying9
    have hc7:=hk7 w7 (Below.refl _ _)
    refine wpAnyE_mono (S':=fun W=>(convert 36 9 (.slice A7 (saveP p).length c7)).run Tryz.prog W=.ok (.string s) W) (fun _ _=>trivial) _ _ _ _ ?_
    have hHeld:=hc7
    refine tkT 5 (v:=?_) hTl hHeld rfl ?_ (fun hTl=>?_);rotate_left
    ·intro w hSw;(try dsimp only at hSw);go_simp;all_goals with_reducible rfl
    try simp only [pT]
    clear hTl
    have hS2:=rsave_both (HT.out.1.below hb7) (by omega)
    refine oneE 7 rfl (by kernel_rfl) (fun K hK=>?_)
    refine step_callW (by rfl) 20 _ (by go_simp) hS2 ?_
    rintro e w8 ⟨v8,e8,ho8,hb8⟩;subst e8;obtain ⟨A8,c8,rfl⟩:=own_formS ho8;refine ⟨_,rfl,?_⟩
    refine hK.out _ _ (fun _=>hk7 w8 hb8) ?_
    clear hK K
    try simp only [pT]
    have hc8:(convert 36 9 (.slice A8 (saveP p).length c8)).run Tryz.prog w8=.ok (.string s) w8:=by rw [←hs];exact own_str8 rfl ho8 Tryz.underlying9
    have hb78:Below w.heap.size w w8:=(HT.out.2.1.trans (hb7.mono HT.out.2.1.size)).trans (hb8.mono (Nat.le_trans HT.out.2.1.size hb7.size))
    refine oneE 8 rfl (by kernel_rfl) (fun K hK=>?_)
    go_simp
    refine hK.out _ _ (fun _=>hk7 w8 hb8) ?_
    clear hK K
    try simp only [pT]
    refine oneE 9 rfl (by kernel_rfl) (fun K hK=>?_)
    go_simp
    refine hK.out _ _ (fun _=>hk7 w8 hb8) ?_
    clear hK K
    try simp only [pT]
    refine oneE 10 rfl (by kernel_rfl) (fun K hK=>?_)
    go_simp
    refine hK.out _ _ (fun h=>absurd h (by decide)) ?_
    clear hK K
    try simp only [pT]
    refine doneE (by kernel_rfl) ?_ _
    clear hk7 hc7 hc8 hHeld hS1 hS2 ho7 ho8 hgr
    cases hld:loadP other b with
    | mk oy ek =>
     cases oy with
     | none =>
      have hco:=loadP_codes hld
      have hkk:(ek != ek)=false:=by simp
      go_wp2_with (first
       | (at_builtin;refine list_push TBy rfl rfl w8.heap.size rfl (own_emptyH _ _ _ rfl (Nat.le_refl _)) rfl (HB.out.below ((hb78.alloc hb78.size _))) (bl_one _) (by omega) (by simp) (Nat.zero_add _) (List.nil_append _) ?_;intro A2 c2 v2 ho2 hg2 hl2;have hq2:Below w8.heap.size w8 v2:=((Below.refl _ w8).alloc (Nat.le_refl _) _).grown hg2 (by simp) (fun k e=>by cases e;exact Nat.le_refl _);have hB2:Below w.heap.size w v2:=hb78.trans (hq2.mono hb78.size))
       | (go_at_call 17;refine (VLoad_no (hg.below hB2) (Reads.of_own ho2) (own_cap ho2) (by omega) hld).mono ?_;rintro e v5 ⟨ve,rfl,hE5,hb5⟩;have hB5:Below w.heap.size w v5:=hB2.trans (hb5.mono hB2.size))
       | (go_at_call 21;refine (RLoad_no (reads_mono (HB.out.below hB5) hB5.size) hcb (by omega) hld).mono ?_;rintro e v6 ⟨rfl,hb6⟩;have hB6:Below w.heap.size w v6:=hB5.trans (hb6.mono hB5.size))
       | (go_at_call 11;refine (told_at (hg.below hB6) (hE5.keep hb6) (.inr hco)).mono ?_;rintro e v7 ⟨rfl,hf7⟩;have hB7:Below w.heap.size w v7:=hB6.trans (Fr.below hf7 hB6.size (fun k hk=>Nat.le_trans hB2.size hk.1))))
      have hd7:Below v7.heap.size v7 v7.drew:=(Below.refl _ v7).drew
      have hl7:=live_any ((hg.below hB7).below hd7)
      refine regionE 18 (fun _=>True) (by kernel_rfl) (by kernel_rfl) (by kernel_rfl) (by kernel_rfl) (by kernel_rfl) (trivial) (fun hHeld hTl=>?_)
      refine tkT 0 (v:=?_) hTl hHeld rfl ?_ (fun hTl=>?_);rotate_left
      ·intro w hSw;(try dsimp only at hSw);go_simp;all_goals with_reducible rfl
      try simp only [pT]
      refine tkT 1 (v:=?_) hTl hHeld rfl ?_ (fun hTl=>?_);rotate_left
      ·intro w hSw;(try dsimp only at hSw);go_simp;all_goals with_reducible rfl
      try simp only [pT]
      refine tkT 2 (v:=?_) hTl hHeld rfl ?_ (fun hTl=>?_);rotate_left
      ·intro w hSw;(try dsimp only at hSw);go_simp;all_goals with_reducible rfl
      try simp only [pT]
      refine tkU 3 hTl hHeld rfl (fun hTl=>?_)
      try simp only [pT]
      refine tkU 4 hTl hHeld rfl (fun hTl=>?_)
      try simp only [pT]
      refine tkU 5 hTl hHeld rfl (fun hTl=>?_)
      try simp only [pT]
      refine tkU 6 hTl hHeld rfl (fun hTl=>?_)
      try simp only [pT]
      refine tkU 7 hTl hHeld rfl (fun hTl=>?_)
      try simp only [pT]
      refine tkU 8 hTl hHeld rfl (fun hTl=>?_)
      try simp only [pT]
      refine tkU 9 hTl hHeld rfl (fun hTl=>?_)
      try simp only [pT]
      refine tkU 10 hTl hHeld rfl (fun hTl=>?_)
      try simp only [pT]
      refine tkU 11 hTl hHeld rfl (fun hTl=>?_)
      try simp only [pT]
      refine tkU 12 hTl hHeld rfl (fun hTl=>?_)
      try simp only [pT]
      refine tkU 13 hTl hHeld rfl (fun hTl=>?_)
      try simp only [pT]
      refine tkT 14 (v:=?_) hTl hHeld rfl ?_ (fun hTl=>?_);rotate_left
      ·intro w hSw;(try dsimp only at hSw);go_simp;all_goals with_reducible rfl
      try simp only [pT]
      refine tkT 15 (v:=?_) hTl hHeld rfl ?_ (fun hTl=>?_);rotate_left
      ·intro w hSw;(try dsimp only at hSw);go_simp;all_goals with_reducible rfl
      try simp only [pT]
      clear hTl
      refine oneE 16 rfl (by kernel_rfl) (fun K hK=>?_)
      refine step_callW (by rfl) 8 _ (by go_simp) hl7 ?_
      rintro e v8 ⟨e8,hb8⟩;subst e8;refine ⟨_,rfl,?_⟩
      refine hK.out _ _ (fun _=>trivial) ?_
      clear hK K
      try simp only [pT]
      refine oneE 17 rfl (by kernel_rfl) (fun K hK=>?_)
      go_simp
      refine hK.out _ _ (fun _=>trivial) ?_
      clear hK K
      try simp only [pT]
      refine oneE 18 rfl (by kernel_rfl) (fun K hK=>?_)
      go_simp
      refine hK.out _ _ (fun h=>absurd h (by decide)) ?_
      clear hK K
      try simp only [pT]
      refine doneE (by kernel_rfl) ?_ _
      go_wp2
      go_ret
      exact ⟨rfl,hB7.trans ((hd7.trans (hb8.mono hd7.size)).mono hB7.size)⟩
     | some y =>
      go_wp2_with (first
       | (at_builtin;refine list_push TBy rfl rfl w8.heap.size rfl (own_emptyH _ _ _ rfl (Nat.le_refl _)) rfl (HB.out.below ((hb78.alloc hb78.size _))) (bl_one _) (by omega) (by simp) (Nat.zero_add _) (List.nil_append _) ?_;intro A2 c2 v2 ho2 hg2 hl2;have hq2:Below w8.heap.size w8 v2:=((Below.refl _ w8).alloc (Nat.le_refl _) _).grown hg2 (by simp) (fun k e=>by cases e;exact Nat.le_refl _);have hB2:Below w.heap.size w v2:=hb78.trans (hq2.mono hb78.size))
       | (go_at_call 17;refine (VLoad_ok (hg.below hB2) (Reads.of_own ho2) (own_cap ho2) (by omega) hld).mono ?_;rintro e v5 ⟨xb,rfl,hP5,hb5⟩;have hB5:Below w.heap.size w v5:=hB2.trans (hb5.mono hB2.size))
       | (go_at_call 21;refine (RLoad_ok (reads_mono (HB.out.below hB5) hB5.size) hcb (by omega) hld).mono ?_;rintro e v6 ⟨yb,rfl,hR6,hb6⟩;have hB6:Below w.heap.size w v6:=hB5.trans (hb6.mono hB5.size))
       | (go_at_call 11;refine (told_none _ _ _).mono ?_;rintro e v7 ⟨rfl,rfl⟩))
      have hd6:Below v6.heap.size v6 v6.drew:=(Below.refl _ v6).drew
      have hBy:=(both_load hld hP5 hb5 hR6 hb6).below hd6
      have hsy:=(saveP_loadP hld).1
      have hA:=alike_both hBy (by omega)
      obtain ⟨sb,hsb⟩:∃ s:ByteArray,(⟨b.toArray⟩:ByteArray)=s:=⟨_,rfl⟩
      have hkb:∀ W,Below w.heap.size w W→(convert 36 9 (.slice Ab b.length cb)).run Tryz.prog W=.ok (.string sb) W:=fun W hW=>by rw [←hsb];exact reads_str (HB.out.below hW) rfl Tryz.underlying9
      have hsbs:(sb.toList==sb.toList)=true:=by simp
      have hB6d:Below w.heap.size w v6.drew:=hB6.trans (hd6.mono hB6.size)
      have hk6:=hkb _ hB6d
      clear hP5 hR6
      refine regionE 18 (fun W0=>(convert 36 9 (.slice Ab b.length cb)).run Tryz.prog W0=.ok (.string sb) W0) (by kernel_rfl) (by kernel_rfl) (by kernel_rfl) (by kernel_rfl) (by kernel_rfl) (hk6) (fun hHeld hTl=>?_)
      refine tkT 0 (v:=?_) hTl hHeld rfl ?_ (fun hTl=>?_);rotate_left
      ·intro w hSw;(try dsimp only at hSw);go_simp;all_goals with_reducible rfl
      try simp only [pT]
      refine tkT 1 (v:=?_) hTl hHeld rfl ?_ (fun hTl=>?_);rotate_left
      ·intro w hSw;(try dsimp only at hSw);go_simp;all_goals with_reducible rfl
      try simp only [pT]
      refine tkT 2 (v:=?_) hTl hHeld rfl ?_ (fun hTl=>?_);rotate_left
      ·intro w hSw;(try dsimp only at hSw);go_simp;all_goals with_reducible rfl
      try simp only [pT]
      refine tkT 3 (v:=?_) hTl hHeld rfl ?_ (fun hTl=>?_);rotate_left
      ·intro w hSw;(try dsimp only at hSw);go_simp;all_goals with_reducible rfl
      try simp only [pT]
      refine tkT 4 (v:=?_) hTl hHeld rfl ?_ (fun hTl=>?_);rotate_left
      ·intro w hSw;(try dsimp only at hSw);go_simp;all_goals with_reducible rfl
      try simp only [pT]
      have hTl2:=hTl.step 5 (by kernel_rfl) (by decide)
      clear hTl
      refine oneE 5 rfl (by kernel_rfl) (fun K hK=>?_)
      refine step_callW (by rfl) 14 _ (by go_simp) hA ?_
      rintro e v8 ⟨e8,hb8⟩;subst e8;refine ⟨_,rfl,?_⟩;have hB8:Below w.heap.size w v8:=hB6d.trans (hb8.mono hB6d.size);have hk8:=hkb _ hB8
      refine hK.out _ _ (fun _=>hk8) ?_
      clear hK K
      try simp only [pT]
      have hTl:=hTl2
      clear hTl2
      have hHeld:=hk8
      have hTl2:=hTl.step 6 (by kernel_rfl) (by decide)
      clear hTl
      refine oneE 6 rfl (by kernel_rfl) (fun K hK=>?_)
      go_simp
      refine hK.out _ _ (fun _=>hk8) ?_
      clear hK K
      try simp only [pT]
      have hTl:=hTl2
      clear hTl2
      refine tkT 7 (v:=?_) hTl hHeld rfl ?_ (fun hTl=>?_);rotate_left
      ·intro w hSw;(try dsimp only at hSw);go_simp;all_goals with_reducible rfl
      try simp only [pT]
      refine tkT 10 (v:=?_) hTl hHeld rfl ?_ (fun hTl=>?_);rotate_left
      ·intro w hSw;(try dsimp only at hSw);go_simp;all_goals with_reducible rfl
      try simp only [pT]
      refine tkT 11 (v:=?_) hTl hHeld rfl ?_ (fun hTl=>?_);rotate_left
      ·intro w hSw;(try dsimp only at hSw);go_simp;all_goals with_reducible rfl
      try simp only [pT]
      clear hTl
      have hS8:=save_both (hBy.below hb8)
      rw [hsy] at hS8
      refine oneE 8 rfl (by kernel_rfl) (fun K hK=>?_)
      refine step_callW (by rfl) 18 _ (by go_simp) hS8 ?_
      rintro e v9 ⟨u9,e9,ho9,hb9⟩;subst e9;obtain ⟨A9,c9,rfl⟩:=own_formS ho9;refine ⟨_,rfl,?_⟩;have hB9:Below w.heap.size w v9:=hB8.trans (hb9.mono hB8.size);have hk9:=hkb _ hB9
      refine hK.out _ _ (fun _=>hk9) ?_
      clear hK K
      try simp only [pT]
      have hc9:(convert 36 9 (.slice A9 b.length c9)).run Tryz.prog v9=.ok (.string sb) v9:=by rw [←hsb];exact own_str8 rfl ho9 Tryz.underlying9
      have hl9:=live_any (hg.below hB9)
      refine oneE 9 rfl (by kernel_rfl) (fun K hK=>?_)
      go_simp
      refine hK.out _ _ (fun _=>hk9) ?_
      clear hK K
      try simp only [pT]
      refine oneE 12 rfl (by kernel_rfl) (fun K hK=>?_)
      go_simp
      refine hK.out _ _ (fun _=>hk9) ?_
      clear hK K
      try simp only [pT]
      refine oneE 13 rfl (by kernel_rfl) (fun K hK=>?_)
      go_simp
      refine hK.out _ _ (fun _=>hk9) ?_
      clear hK K
      try simp only [pT]
      refine oneE 14 rfl (by kernel_rfl) (fun K hK=>?_)
      go_simp
      refine hK.out _ _ (fun _=>hk9) ?_
      clear hK K
      try simp only [pT]
      refine oneE 15 rfl (by kernel_rfl) (fun K hK=>?_)
      go_simp
      refine hK.out _ _ (fun _=>hk9) ?_
      clear hK K
      try simp only [pT]
      refine oneE 16 rfl (by kernel_rfl) (fun K hK=>?_)
      refine step_callW (by rfl) 8 _ (by go_simp) hl9 ?_
      rintro e v10 ⟨e10,hb10⟩;subst e10;refine ⟨_,rfl,?_⟩;have hB10:Below w.heap.size w v10:=hB9.trans (hb10.mono hB9.size);have hk10:=hkb _ hB10
      refine hK.out _ _ (fun _=>hk10) ?_
      clear hK K
      try simp only [pT]
      refine oneE 17 rfl (by kernel_rfl) (fun K hK=>?_)
      go_simp
      refine hK.out _ _ (fun _=>hk10) ?_
      clear hK K
      try simp only [pT]
      refine oneE 18 rfl (by kernel_rfl) (fun K hK=>?_)
      go_simp
      refine hK.out _ _ (fun h=>absurd h (by decide)) ?_
      clear hK K
      try simp only [pT]
      refine doneE (by kernel_rfl) ?_ _
      go_wp2
      go_ret
      exact ⟨rfl,hB10⟩
 ·have hr':room<0∨4096<room:=by omega
  have hN:=new_err w1 hr'
  go_wp2_with (first
   | (go_at_call 9;refine hN.mono ?_;rintro e w2 ⟨⟨v,rfl,hE⟩,hb2⟩;obtain ⟨_,r,hrB,rfl,hr1⟩:=hE.resolve_left (fun h=>absurd h.1 (by decide)))
   | (go_at_call 10;refine (rnew_err _ hr').mono ?_;rintro e w3 ⟨rfl,rfl⟩))
  have hB2:Below w.heap.size w w2:=hb1.trans (hb2.mono hs1)
  clear hN hb2 hr1
  go_loopw [13] (fun i wr=>wr=w2∧i=.int .i64 0) (fun i _=>0)
  case atStart=>exact ⟨rfl,rfl⟩
  case round =>
   obtain ⟨rfl,rfl⟩:=hrel
   have hbd:Below wr.heap.size wr wr.drew:=(Below.refl _ wr).drew
   have hBd:=hB2.trans (hbd.mono hB2.size)
   by_cases h0:0<ds.length
   ·have d1:decide (0<ds.length)=true:=by simpa using h0
    go_wp2_with fail
    refine regionE 10 (fun _=>True) (by kernel_rfl) (by kernel_rfl) (by kernel_rfl) (by kernel_rfl) (by kernel_rfl) (trivial) (fun hHeld hTl=>?_)
    refine tkT 0 (v:=?_) hTl hHeld rfl ?_ (fun hTl=>?_);rotate_left
    ·intro w hSw;(try dsimp only at hSw);go_simp;all_goals with_reducible rfl
    try simp only [pT]
    refine tkT 1 (v:=?_) hTl hHeld rfl ?_ (fun hTl=>?_);rotate_left
    ·intro w hSw;(try dsimp only at hSw);go_simp;all_goals with_reducible rfl
    try simp only [pT]
    refine tkT 2 (v:=?_) hTl hHeld rfl ?_ (fun hTl=>?_);rotate_left
    ·intro w hSw;(try dsimp only at hSw);go_simp;all_goals with_reducible rfl
    try simp only [pT]
    refine tkU 3 hTl hHeld rfl (fun hTl=>?_)
    try simp only [pT]
    refine tkU 4 hTl hHeld rfl (fun hTl=>?_)
    try simp only [pT]
    refine tkU 5 hTl hHeld rfl (fun hTl=>?_)
    try simp only [pT]
    refine tkU 6 hTl hHeld rfl (fun hTl=>?_)
    try simp only [pT]
    refine tkU 7 hTl hHeld rfl (fun hTl=>?_)
    try simp only [pT]
    refine tkU 8 hTl hHeld rfl (fun hTl=>?_)
    try simp only [pT]
    refine tkU 9 hTl hHeld rfl (fun hTl=>?_)
    try simp only [pT]
    refine oneE 10 rfl (by kernel_rfl) (fun K hK=>?_)
    go_simp
    refine hK.out _ _ (fun h=>absurd h (by decide)) ?_
    clear hK K
    try simp only [pT]
    refine doneE (by kernel_rfl) ?_ _
    cases hld:loadP other b with
    | mk oy ek =>
     cases oy with
     | none =>
      have hco:=loadP_codes hld
      have hkk:(ek != ek)=false:=by simp
      go_wp2_with (first
       | (at_builtin;refine list_push TBy rfl rfl wr.drew.heap.size rfl (own_emptyH _ _ _ rfl (Nat.le_refl _)) rfl (HB.out.below ((hBd.alloc hBd.size _))) (bl_one _) (by omega) (by simp) (Nat.zero_add _) (List.nil_append _) ?_;intro A2 c2 v2 ho2 hg2 hl2;have hq2:Below wr.drew.heap.size wr.drew v2:=((Below.refl _ wr.drew).alloc (Nat.le_refl _) _).grown hg2 (by simp) (fun k e=>by cases e;exact Nat.le_refl _);have hB2:Below w.heap.size w v2:=hBd.trans (hq2.mono hBd.size))
       | (go_at_call 17;refine (VLoad_no (hg.below hB2) (Reads.of_own ho2) (own_cap ho2) (by omega) hld).mono ?_;rintro e v5 ⟨ve,rfl,hE5,hb5⟩;have hB5:Below w.heap.size w v5:=hB2.trans (hb5.mono hB2.size))
       | (go_at_call 21;refine (RLoad_no (reads_mono (HB.out.below hB5) hB5.size) hcb (by omega) hld).mono ?_;rintro e v6 ⟨rfl,hb6⟩;have hB6:Below w.heap.size w v6:=hB5.trans (hb6.mono hB5.size))
       | (go_at_call 11;refine (told_at (hg.below hB6) (hE5.keep hb6) (.inr hco)).mono ?_;rintro e v7 ⟨rfl,hf7⟩;have hB7:Below w.heap.size w v7:=hB6.trans (Fr.below hf7 hB6.size (fun k hk=>Nat.le_trans hB2.size hk.1))))
      have hd7:Below v7.heap.size v7 v7.drew:=(Below.refl _ v7).drew
      have hl7:=live_any ((hg.below hB7).below hd7)
      refine regionE 18 (fun _=>True) (by kernel_rfl) (by kernel_rfl) (by kernel_rfl) (by kernel_rfl) (by kernel_rfl) (trivial) (fun hHeld hTl=>?_)
      refine tkT 0 (v:=?_) hTl hHeld rfl ?_ (fun hTl=>?_);rotate_left
      ·intro w hSw;(try dsimp only at hSw);go_simp;all_goals with_reducible rfl
      try simp only [pT]
      refine tkT 1 (v:=?_) hTl hHeld rfl ?_ (fun hTl=>?_);rotate_left
      ·intro w hSw;(try dsimp only at hSw);go_simp;all_goals with_reducible rfl
      try simp only [pT]
      refine tkT 2 (v:=?_) hTl hHeld rfl ?_ (fun hTl=>?_);rotate_left
      ·intro w hSw;(try dsimp only at hSw);go_simp;all_goals with_reducible rfl
      try simp only [pT]
      refine tkU 3 hTl hHeld rfl (fun hTl=>?_)
      try simp only [pT]
      refine tkU 4 hTl hHeld rfl (fun hTl=>?_)
      try simp only [pT]
      refine tkU 5 hTl hHeld rfl (fun hTl=>?_)
      try simp only [pT]
      refine tkU 6 hTl hHeld rfl (fun hTl=>?_)
      try simp only [pT]
      refine tkU 7 hTl hHeld rfl (fun hTl=>?_)
      try simp only [pT]
      refine tkU 8 hTl hHeld rfl (fun hTl=>?_)
      try simp only [pT]
      refine tkU 9 hTl hHeld rfl (fun hTl=>?_)
      try simp only [pT]
      refine tkU 10 hTl hHeld rfl (fun hTl=>?_)
      try simp only [pT]
      refine tkU 11 hTl hHeld rfl (fun hTl=>?_)
      try simp only [pT]
      refine tkU 12 hTl hHeld rfl (fun hTl=>?_)
      try simp only [pT]
      refine tkU 13 hTl hHeld rfl (fun hTl=>?_)
      try simp only [pT]
      refine tkT 14 (v:=?_) hTl hHeld rfl ?_ (fun hTl=>?_);rotate_left
      ·intro w hSw;(try dsimp only at hSw);go_simp;all_goals with_reducible rfl
      try simp only [pT]
      refine tkT 15 (v:=?_) hTl hHeld rfl ?_ (fun hTl=>?_);rotate_left
      ·intro w hSw;(try dsimp only at hSw);go_simp;all_goals with_reducible rfl
      try simp only [pT]
      clear hTl
      refine oneE 16 rfl (by kernel_rfl) (fun K hK=>?_)
      refine step_callW (by rfl) 8 _ (by go_simp) hl7 ?_
      rintro e v8 ⟨e8,hb8⟩;subst e8;refine ⟨_,rfl,?_⟩
      refine hK.out _ _ (fun _=>trivial) ?_
      clear hK K
      try simp only [pT]
      refine oneE 17 rfl (by kernel_rfl) (fun K hK=>?_)
      go_simp
      refine hK.out _ _ (fun _=>trivial) ?_
      clear hK K
      try simp only [pT]
      refine oneE 18 rfl (by kernel_rfl) (fun K hK=>?_)
      go_simp
      refine hK.out _ _ (fun h=>absurd h (by decide)) ?_
      clear hK K
      try simp only [pT]
      refine doneE (by kernel_rfl) ?_ _
      go_wp2
      go_ret
      exact ⟨rfl,hB7.trans ((hd7.trans (hb8.mono hd7.size)).mono hB7.size)⟩
     | some y =>
      go_wp2_with (first
       | (at_builtin;refine list_push TBy rfl rfl wr.drew.heap.size rfl (own_emptyH _ _ _ rfl (Nat.le_refl _)) rfl (HB.out.below ((hBd.alloc hBd.size _))) (bl_one _) (by omega) (by simp) (Nat.zero_add _) (List.nil_append _) ?_;intro A2 c2 v2 ho2 hg2 hl2;have hq2:Below wr.drew.heap.size wr.drew v2:=((Below.refl _ wr.drew).alloc (Nat.le_refl _) _).grown hg2 (by simp) (fun k e=>by cases e;exact Nat.le_refl _);have hB2:Below w.heap.size w v2:=hBd.trans (hq2.mono hBd.size))
       | (go_at_call 17;refine (VLoad_ok (hg.below hB2) (Reads.of_own ho2) (own_cap ho2) (by omega) hld).mono ?_;rintro e v5 ⟨xb,rfl,hP5,hb5⟩;have hB5:Below w.heap.size w v5:=hB2.trans (hb5.mono hB2.size))
       | (go_at_call 21;refine (RLoad_ok (reads_mono (HB.out.below hB5) hB5.size) hcb (by omega) hld).mono ?_;rintro e v6 ⟨yb,rfl,hR6,hb6⟩;have hB6:Below w.heap.size w v6:=hB5.trans (hb6.mono hB5.size))
       | (go_at_call 11;refine (told_none _ _ _).mono ?_;rintro e v7 ⟨rfl,rfl⟩))
      have hd6:Below v6.heap.size v6 v6.drew:=(Below.refl _ v6).drew
      have hBy:=(both_load hld hP5 hb5 hR6 hb6).below hd6
      have hsy:=(saveP_loadP hld).1
      have hA:=alike_both hBy (by omega)
      obtain ⟨sb,hsb⟩:∃ s:ByteArray,(⟨b.toArray⟩:ByteArray)=s:=⟨_,rfl⟩
      have hkb:∀ W,Below w.heap.size w W→(convert 36 9 (.slice Ab b.length cb)).run Tryz.prog W=.ok (.string sb) W:=fun W hW=>by rw [←hsb];exact reads_str (HB.out.below hW) rfl Tryz.underlying9
      have hsbs:(sb.toList==sb.toList)=true:=by simp
      have hB6d:Below w.heap.size w v6.drew:=hB6.trans (hd6.mono hB6.size)
      have hk6:=hkb _ hB6d
      clear hP5 hR6
      refine regionE 18 (fun W0=>(convert 36 9 (.slice Ab b.length cb)).run Tryz.prog W0=.ok (.string sb) W0) (by kernel_rfl) (by kernel_rfl) (by kernel_rfl) (by kernel_rfl) (by kernel_rfl) (hk6) (fun hHeld hTl=>?_)
      refine tkT 0 (v:=?_) hTl hHeld rfl ?_ (fun hTl=>?_);rotate_left
      ·intro w hSw;(try dsimp only at hSw);go_simp;all_goals with_reducible rfl
      try simp only [pT]
      refine tkT 1 (v:=?_) hTl hHeld rfl ?_ (fun hTl=>?_);rotate_left
      ·intro w hSw;(try dsimp only at hSw);go_simp;all_goals with_reducible rfl
      try simp only [pT]
      refine tkT 2 (v:=?_) hTl hHeld rfl ?_ (fun hTl=>?_);rotate_left
      ·intro w hSw;(try dsimp only at hSw);go_simp;all_goals with_reducible rfl
      try simp only [pT]
      refine tkT 3 (v:=?_) hTl hHeld rfl ?_ (fun hTl=>?_);rotate_left
      ·intro w hSw;(try dsimp only at hSw);go_simp;all_goals with_reducible rfl
      try simp only [pT]
      refine tkT 4 (v:=?_) hTl hHeld rfl ?_ (fun hTl=>?_);rotate_left
      ·intro w hSw;(try dsimp only at hSw);go_simp;all_goals with_reducible rfl
      try simp only [pT]
      have hTl2:=hTl.step 5 (by kernel_rfl) (by decide)
      clear hTl
      refine oneE 5 rfl (by kernel_rfl) (fun K hK=>?_)
      refine step_callW (by rfl) 14 _ (by go_simp) hA ?_
      rintro e v8 ⟨e8,hb8⟩;subst e8;refine ⟨_,rfl,?_⟩;have hB8:Below w.heap.size w v8:=hB6d.trans (hb8.mono hB6d.size);have hk8:=hkb _ hB8
      refine hK.out _ _ (fun _=>hk8) ?_
      clear hK K
      try simp only [pT]
      have hTl:=hTl2
      clear hTl2
      have hHeld:=hk8
      have hTl2:=hTl.step 6 (by kernel_rfl) (by decide)
      clear hTl
      refine oneE 6 rfl (by kernel_rfl) (fun K hK=>?_)
      go_simp
      refine hK.out _ _ (fun _=>hk8) ?_
      clear hK K
      try simp only [pT]
      have hTl:=hTl2
      clear hTl2
      refine tkT 7 (v:=?_) hTl hHeld rfl ?_ (fun hTl=>?_);rotate_left
      ·intro w hSw;(try dsimp only at hSw);go_simp;all_goals with_reducible rfl
      try simp only [pT]
      refine tkT 10 (v:=?_) hTl hHeld rfl ?_ (fun hTl=>?_);rotate_left
      ·intro w hSw;(try dsimp only at hSw);go_simp;all_goals with_reducible rfl
      try simp only [pT]
      refine tkT 11 (v:=?_) hTl hHeld rfl ?_ (fun hTl=>?_);rotate_left
      ·intro w hSw;(try dsimp only at hSw);go_simp;all_goals with_reducible rfl
      try simp only [pT]
      clear hTl
      have hS8:=save_both (hBy.below hb8)
      rw [hsy] at hS8
      refine oneE 8 rfl (by kernel_rfl) (fun K hK=>?_)
      refine step_callW (by rfl) 18 _ (by go_simp) hS8 ?_
      rintro e v9 ⟨u9,e9,ho9,hb9⟩;subst e9;obtain ⟨A9,c9,rfl⟩:=own_formS ho9;refine ⟨_,rfl,?_⟩;have hB9:Below w.heap.size w v9:=hB8.trans (hb9.mono hB8.size);have hk9:=hkb _ hB9
      refine hK.out _ _ (fun _=>hk9) ?_
      clear hK K
      try simp only [pT]
      have hc9:(convert 36 9 (.slice A9 b.length c9)).run Tryz.prog v9=.ok (.string sb) v9:=by rw [←hsb];exact own_str8 rfl ho9 Tryz.underlying9
      have hl9:=live_any (hg.below hB9)
      refine oneE 9 rfl (by kernel_rfl) (fun K hK=>?_)
      go_simp
      refine hK.out _ _ (fun _=>hk9) ?_
      clear hK K
      try simp only [pT]
      refine oneE 12 rfl (by kernel_rfl) (fun K hK=>?_)
      go_simp
      refine hK.out _ _ (fun _=>hk9) ?_
      clear hK K
      try simp only [pT]
      refine oneE 13 rfl (by kernel_rfl) (fun K hK=>?_)
      go_simp
      refine hK.out _ _ (fun _=>hk9) ?_
      clear hK K
      try simp only [pT]
      refine oneE 14 rfl (by kernel_rfl) (fun K hK=>?_)
      go_simp
      refine hK.out _ _ (fun _=>hk9) ?_
      clear hK K
      try simp only [pT]
      refine oneE 15 rfl (by kernel_rfl) (fun K hK=>?_)
      go_simp
      refine hK.out _ _ (fun _=>hk9) ?_
      clear hK K
      try simp only [pT]
      refine oneE 16 rfl (by kernel_rfl) (fun K hK=>?_)
      refine step_callW (by rfl) 8 _ (by go_simp) hl9 ?_
      rintro e v10 ⟨e10,hb10⟩;subst e10;refine ⟨_,rfl,?_⟩;have hB10:Below w.heap.size w v10:=hB9.trans (hb10.mono hB9.size);have hk10:=hkb _ hB10
      refine hK.out _ _ (fun _=>hk10) ?_
      clear hK K
      try simp only [pT]
      refine oneE 17 rfl (by kernel_rfl) (fun K hK=>?_)
      go_simp
      refine hK.out _ _ (fun _=>hk10) ?_
      clear hK K
      try simp only [pT]
      refine oneE 18 rfl (by kernel_rfl) (fun K hK=>?_)
      go_simp
      refine hK.out _ _ (fun h=>absurd h (by decide)) ?_
      clear hK K
      try simp only [pT]
      refine doneE (by kernel_rfl) ?_ _
      go_wp2
      go_ret
      exact ⟨rfl,hB10⟩
   ·have d1:decide (0<ds.length)=false:=by simpa using h0
    go_wp2_with fail
    refine regionE 10 (fun _=>True) (by kernel_rfl) (by kernel_rfl) (by kernel_rfl) (by kernel_rfl) (by kernel_rfl) (trivial) (fun hHeld hTl=>?_)
    refine tkT 0 (v:=?_) hTl hHeld rfl ?_ (fun hTl=>?_);rotate_left
    ·intro w hSw;(try dsimp only at hSw);go_simp;all_goals with_reducible rfl
    try simp only [pT]
    refine tkT 1 (v:=?_) hTl hHeld rfl ?_ (fun hTl=>?_);rotate_left
    ·intro w hSw;(try dsimp only at hSw);go_simp;all_goals with_reducible rfl
    try simp only [pT]
    refine tkT 2 (v:=?_) hTl hHeld rfl ?_ (fun hTl=>?_);rotate_left
    ·intro w hSw;(try dsimp only at hSw);go_simp;all_goals with_reducible rfl
    try simp only [pT]
    refine tkU 3 hTl hHeld rfl (fun hTl=>?_)
    try simp only [pT]
    refine tkU 4 hTl hHeld rfl (fun hTl=>?_)
    try simp only [pT]
    refine tkU 5 hTl hHeld rfl (fun hTl=>?_)
    try simp only [pT]
    refine tkU 6 hTl hHeld rfl (fun hTl=>?_)
    try simp only [pT]
    refine tkU 7 hTl hHeld rfl (fun hTl=>?_)
    try simp only [pT]
    refine tkU 8 hTl hHeld rfl (fun hTl=>?_)
    try simp only [pT]
    refine tkU 9 hTl hHeld rfl (fun hTl=>?_)
    try simp only [pT]
    refine oneE 10 rfl (by kernel_rfl) (fun K hK=>?_)
    go_simp
    refine hK.out _ _ (fun h=>absurd h (by decide)) ?_
    clear hK K
    try simp only [pT]
    refine doneE (by kernel_rfl) ?_ _
    cases hld:loadP other b with
    | mk oy ek =>
     cases oy with
     | none =>
      have hco:=loadP_codes hld
      have hkk:(ek != ek)=false:=by simp
      go_wp2_with (first
       | (at_builtin;refine list_push TBy rfl rfl wr.drew.heap.size rfl (own_emptyH _ _ _ rfl (Nat.le_refl _)) rfl (HB.out.below ((hBd.alloc hBd.size _))) (bl_one _) (by omega) (by simp) (Nat.zero_add _) (List.nil_append _) ?_;intro A2 c2 v2 ho2 hg2 hl2;have hq2:Below wr.drew.heap.size wr.drew v2:=((Below.refl _ wr.drew).alloc (Nat.le_refl _) _).grown hg2 (by simp) (fun k e=>by cases e;exact Nat.le_refl _);have hB2:Below w.heap.size w v2:=hBd.trans (hq2.mono hBd.size))
       | (go_at_call 17;refine (VLoad_no (hg.below hB2) (Reads.of_own ho2) (own_cap ho2) (by omega) hld).mono ?_;rintro e v5 ⟨ve,rfl,hE5,hb5⟩;have hB5:Below w.heap.size w v5:=hB2.trans (hb5.mono hB2.size))
       | (go_at_call 21;refine (RLoad_no (reads_mono (HB.out.below hB5) hB5.size) hcb (by omega) hld).mono ?_;rintro e v6 ⟨rfl,hb6⟩;have hB6:Below w.heap.size w v6:=hB5.trans (hb6.mono hB5.size))
       | (go_at_call 11;refine (told_at (hg.below hB6) (hE5.keep hb6) (.inr hco)).mono ?_;rintro e v7 ⟨rfl,hf7⟩;have hB7:Below w.heap.size w v7:=hB6.trans (Fr.below hf7 hB6.size (fun k hk=>Nat.le_trans hB2.size hk.1))))
      have hd7:Below v7.heap.size v7 v7.drew:=(Below.refl _ v7).drew
      have hl7:=live_any ((hg.below hB7).below hd7)
      refine regionE 18 (fun _=>True) (by kernel_rfl) (by kernel_rfl) (by kernel_rfl) (by kernel_rfl) (by kernel_rfl) (trivial) (fun hHeld hTl=>?_)
      refine tkT 0 (v:=?_) hTl hHeld rfl ?_ (fun hTl=>?_);rotate_left
      ·intro w hSw;(try dsimp only at hSw);go_simp;all_goals with_reducible rfl
      try simp only [pT]
      refine tkT 1 (v:=?_) hTl hHeld rfl ?_ (fun hTl=>?_);rotate_left
      ·intro w hSw;(try dsimp only at hSw);go_simp;all_goals with_reducible rfl
      try simp only [pT]
      refine tkT 2 (v:=?_) hTl hHeld rfl ?_ (fun hTl=>?_);rotate_left
      ·intro w hSw;(try dsimp only at hSw);go_simp;all_goals with_reducible rfl
      try simp only [pT]
      refine tkU 3 hTl hHeld rfl (fun hTl=>?_)
      try simp only [pT]
      refine tkU 4 hTl hHeld rfl (fun hTl=>?_)
      try simp only [pT]
      refine tkU 5 hTl hHeld rfl (fun hTl=>?_)
      try simp only [pT]
      refine tkU 6 hTl hHeld rfl (fun hTl=>?_)
      try simp only [pT]
      refine tkU 7 hTl hHeld rfl (fun hTl=>?_)
      try simp only [pT]
      refine tkU 8 hTl hHeld rfl (fun hTl=>?_)
      try simp only [pT]
      refine tkU 9 hTl hHeld rfl (fun hTl=>?_)
      try simp only [pT]
      refine tkU 10 hTl hHeld rfl (fun hTl=>?_)
      try simp only [pT]
      refine tkU 11 hTl hHeld rfl (fun hTl=>?_)
      try simp only [pT]
      refine tkU 12 hTl hHeld rfl (fun hTl=>?_)
      try simp only [pT]
      refine tkU 13 hTl hHeld rfl (fun hTl=>?_)
      try simp only [pT]
      refine tkT 14 (v:=?_) hTl hHeld rfl ?_ (fun hTl=>?_);rotate_left
      ·intro w hSw;(try dsimp only at hSw);go_simp;all_goals with_reducible rfl
      try simp only [pT]
      refine tkT 15 (v:=?_) hTl hHeld rfl ?_ (fun hTl=>?_);rotate_left
      ·intro w hSw;(try dsimp only at hSw);go_simp;all_goals with_reducible rfl
      try simp only [pT]
      clear hTl
      refine oneE 16 rfl (by kernel_rfl) (fun K hK=>?_)
      refine step_callW (by rfl) 8 _ (by go_simp) hl7 ?_
      rintro e v8 ⟨e8,hb8⟩;subst e8;refine ⟨_,rfl,?_⟩
      refine hK.out _ _ (fun _=>trivial) ?_
      clear hK K
      try simp only [pT]
      refine oneE 17 rfl (by kernel_rfl) (fun K hK=>?_)
      go_simp
      refine hK.out _ _ (fun _=>trivial) ?_
      clear hK K
      try simp only [pT]
      refine oneE 18 rfl (by kernel_rfl) (fun K hK=>?_)
      go_simp
      refine hK.out _ _ (fun h=>absurd h (by decide)) ?_
      clear hK K
      try simp only [pT]
      refine doneE (by kernel_rfl) ?_ _
      go_wp2
      go_ret
      exact ⟨rfl,hB7.trans ((hd7.trans (hb8.mono hd7.size)).mono hB7.size)⟩
     | some y =>
      go_wp2_with (first
       | (at_builtin;refine list_push TBy rfl rfl wr.drew.heap.size rfl (own_emptyH _ _ _ rfl (Nat.le_refl _)) rfl (HB.out.below ((hBd.alloc hBd.size _))) (bl_one _) (by omega) (by simp) (Nat.zero_add _) (List.nil_append _) ?_;intro A2 c2 v2 ho2 hg2 hl2;have hq2:Below wr.drew.heap.size wr.drew v2:=((Below.refl _ wr.drew).alloc (Nat.le_refl _) _).grown hg2 (by simp) (fun k e=>by cases e;exact Nat.le_refl _);have hB2:Below w.heap.size w v2:=hBd.trans (hq2.mono hBd.size))
       | (go_at_call 17;refine (VLoad_ok (hg.below hB2) (Reads.of_own ho2) (own_cap ho2) (by omega) hld).mono ?_;rintro e v5 ⟨xb,rfl,hP5,hb5⟩;have hB5:Below w.heap.size w v5:=hB2.trans (hb5.mono hB2.size))
       | (go_at_call 21;refine (RLoad_ok (reads_mono (HB.out.below hB5) hB5.size) hcb (by omega) hld).mono ?_;rintro e v6 ⟨yb,rfl,hR6,hb6⟩;have hB6:Below w.heap.size w v6:=hB5.trans (hb6.mono hB5.size))
       | (go_at_call 11;refine (told_none _ _ _).mono ?_;rintro e v7 ⟨rfl,rfl⟩))
      have hd6:Below v6.heap.size v6 v6.drew:=(Below.refl _ v6).drew
      have hBy:=(both_load hld hP5 hb5 hR6 hb6).below hd6
      have hsy:=(saveP_loadP hld).1
      have hA:=alike_both hBy (by omega)
      obtain ⟨sb,hsb⟩:∃ s:ByteArray,(⟨b.toArray⟩:ByteArray)=s:=⟨_,rfl⟩
      have hkb:∀ W,Below w.heap.size w W→(convert 36 9 (.slice Ab b.length cb)).run Tryz.prog W=.ok (.string sb) W:=fun W hW=>by rw [←hsb];exact reads_str (HB.out.below hW) rfl Tryz.underlying9
      have hsbs:(sb.toList==sb.toList)=true:=by simp
      have hB6d:Below w.heap.size w v6.drew:=hB6.trans (hd6.mono hB6.size)
      have hk6:=hkb _ hB6d
      clear hP5 hR6
      refine regionE 18 (fun W0=>(convert 36 9 (.slice Ab b.length cb)).run Tryz.prog W0=.ok (.string sb) W0) (by kernel_rfl) (by kernel_rfl) (by kernel_rfl) (by kernel_rfl) (by kernel_rfl) (hk6) (fun hHeld hTl=>?_)
      refine tkT 0 (v:=?_) hTl hHeld rfl ?_ (fun hTl=>?_);rotate_left
      ·intro w hSw;(try dsimp only at hSw);go_simp;all_goals with_reducible rfl
      try simp only [pT]
      refine tkT 1 (v:=?_) hTl hHeld rfl ?_ (fun hTl=>?_);rotate_left
      ·intro w hSw;(try dsimp only at hSw);go_simp;all_goals with_reducible rfl
      try simp only [pT]
      refine tkT 2 (v:=?_) hTl hHeld rfl ?_ (fun hTl=>?_);rotate_left
      ·intro w hSw;(try dsimp only at hSw);go_simp;all_goals with_reducible rfl
      try simp only [pT]
      refine tkT 3 (v:=?_) hTl hHeld rfl ?_ (fun hTl=>?_);rotate_left
      ·intro w hSw;(try dsimp only at hSw);go_simp;all_goals with_reducible rfl
      try simp only [pT]
      refine tkT 4 (v:=?_) hTl hHeld rfl ?_ (fun hTl=>?_);rotate_left
      ·intro w hSw;(try dsimp only at hSw);go_simp;all_goals with_reducible rfl
      try simp only [pT]
      have hTl2:=hTl.step 5 (by kernel_rfl) (by decide)
      clear hTl
      refine oneE 5 rfl (by kernel_rfl) (fun K hK=>?_)
      refine step_callW (by rfl) 14 _ (by go_simp) hA ?_
      rintro e v8 ⟨e8,hb8⟩;subst e8;refine ⟨_,rfl,?_⟩;have hB8:Below w.heap.size w v8:=hB6d.trans (hb8.mono hB6d.size);have hk8:=hkb _ hB8
      refine hK.out _ _ (fun _=>hk8) ?_
      clear hK K
      try simp only [pT]
      have hTl:=hTl2
      clear hTl2
      have hHeld:=hk8
      have hTl2:=hTl.step 6 (by kernel_rfl) (by decide)
      clear hTl
      refine oneE 6 rfl (by kernel_rfl) (fun K hK=>?_)
      go_simp
      refine hK.out _ _ (fun _=>hk8) ?_
      clear hK K
      try simp only [pT]
      have hTl:=hTl2
      clear hTl2
      refine tkT 7 (v:=?_) hTl hHeld rfl ?_ (fun hTl=>?_);rotate_left
      ·intro w hSw;(try dsimp only at hSw);go_simp;all_goals with_reducible rfl
      try simp only [pT]
      refine tkT 10 (v:=?_) hTl hHeld rfl ?_ (fun hTl=>?_);rotate_left
      ·intro w hSw;(try dsimp only at hSw);go_simp;all_goals with_reducible rfl
      try simp only [pT]
      refine tkT 11 (v:=?_) hTl hHeld rfl ?_ (fun hTl=>?_);rotate_left
      ·intro w hSw;(try dsimp only at hSw);go_simp;all_goals with_reducible rfl
      try simp only [pT]
      clear hTl
      have hS8:=save_both (hBy.below hb8)
      rw [hsy] at hS8
      refine oneE 8 rfl (by kernel_rfl) (fun K hK=>?_)
      refine step_callW (by rfl) 18 _ (by go_simp) hS8 ?_
      rintro e v9 ⟨u9,e9,ho9,hb9⟩;subst e9;obtain ⟨A9,c9,rfl⟩:=own_formS ho9;refine ⟨_,rfl,?_⟩;have hB9:Below w.heap.size w v9:=hB8.trans (hb9.mono hB8.size);have hk9:=hkb _ hB9
      refine hK.out _ _ (fun _=>hk9) ?_
      clear hK K
      try simp only [pT]
      have hc9:(convert 36 9 (.slice A9 b.length c9)).run Tryz.prog v9=.ok (.string sb) v9:=by rw [←hsb];exact own_str8 rfl ho9 Tryz.underlying9
      have hl9:=live_any (hg.below hB9)
      refine oneE 9 rfl (by kernel_rfl) (fun K hK=>?_)
      go_simp
      refine hK.out _ _ (fun _=>hk9) ?_
      clear hK K
      try simp only [pT]
      refine oneE 12 rfl (by kernel_rfl) (fun K hK=>?_)
      go_simp
      refine hK.out _ _ (fun _=>hk9) ?_
      clear hK K
      try simp only [pT]
      refine oneE 13 rfl (by kernel_rfl) (fun K hK=>?_)
      go_simp
      refine hK.out _ _ (fun _=>hk9) ?_
      clear hK K
      try simp only [pT]
      refine oneE 14 rfl (by kernel_rfl) (fun K hK=>?_)
      go_simp
      refine hK.out _ _ (fun _=>hk9) ?_
      clear hK K
      try simp only [pT]
      refine oneE 15 rfl (by kernel_rfl) (fun K hK=>?_)
      go_simp
      refine hK.out _ _ (fun _=>hk9) ?_
      clear hK K
      try simp only [pT]
      refine oneE 16 rfl (by kernel_rfl) (fun K hK=>?_)
      refine step_callW (by rfl) 8 _ (by go_simp) hl9 ?_
      rintro e v10 ⟨e10,hb10⟩;subst e10;refine ⟨_,rfl,?_⟩;have hB10:Below w.heap.size w v10:=hB9.trans (hb10.mono hB9.size);have hk10:=hkb _ hB10
      refine hK.out _ _ (fun _=>hk10) ?_
      clear hK K
      try simp only [pT]
      refine oneE 17 rfl (by kernel_rfl) (fun K hK=>?_)
      go_simp
      refine hK.out _ _ (fun _=>hk10) ?_
      clear hK K
      try simp only [pT]
      refine oneE 18 rfl (by kernel_rfl) (fun K hK=>?_)
      go_simp
      refine hK.out _ _ (fun h=>absurd h (by decide)) ?_
      clear hK K
      try simp only [pT]
      refine doneE (by kernel_rfl) ?_ _
      go_wp2
      go_ret
      exact ⟨rfl,hB10⟩
end
section
open Go.ChangeShapes Go.WideShapes Go.ChangeAt Go.RowKit Go.Joins Go.Deep
section
variable {H:Type} {enc:TypeId × Value→H} {P:Program} {w:World} {base:Nat} {spare:Nat→Bool} {held:Bool}
theorem bytes_in2 {fuel:Nat} {v:Value} {y:DataW H × List MemPlace} (h:DataW.trod enc Tryz.prog w base (fun _=>true) held fuel 36 [v]=some y) (hL:Light Tryz.prog 36 y.1) :
 ∃ (A:Option Addr) (c:Nat) (s:ByteArray),v=.slice A s.size c∧RdB w.heap.size w A s.size (bvals s)∧s.size≤140737488351232∧s.size≤c:=by
 rcases open_ints Tryz.underlying36 Tryz.underlying5 (by kernel_rfl) h with ⟨hcs,_⟩ | ⟨x,l,c,zs,hcs,_,hl,hm,hz,hy,hcell,hwz⟩
 ·simp at hcs
  exact ⟨none,0,ByteArray.empty,hcs,rdB_nil,by simp,by simp⟩
 ·simp at hcs hz
  have hlt:(zs.take l).length=l:=by rw [List.length_take];omega
  have hll:=hL
  rw [hy] at hll
  have hw:=hll.len Tryz.underlying36 (of_decide_eq_true (by kernel_rfl))
  unfold lits at hw
  rw [List.length_map,hlt] at hw
  obtain ⟨s,hs,hsb⟩:=bytes_of (zs:=zs.take l) (fun n hn=>by
   have:=hwz n (List.mem_of_mem_take hn)
   have e1:IntKind.u8.min=0:=rfl
   have e2:IntKind.u8.max=255:=rfl
   simp [Lit.wf] at this
   omega)
  rw [hlt] at hs
  refine ⟨some x,c,s,by rw [hcs,hs],fun W hW=>⟨by rw [hsb,List.length_map,hlt,hs];simp,fun h0=>?_⟩,by rw [hs];exact hw,by rw [hs];omega⟩
  rw [hs] at h0
  have c0:=hcell 0 (by omega)
  have hb:=World.block_lt_of_cell? w _ c0
  have hbx:x.block<w.heap.size:=by simpa [Addr.add] using hb
  refine ⟨x,rfl,Nat.lt_of_lt_of_le hbx hW.size,fun j u hu=>?_⟩
  rw [hW.cell (by unfold Addr.add;split <;> exact hbx)]
  rw [hsb,List.getElem?_map,List.getElem?_take] at hu
  by_cases hj:j<l
  ·rw [if_pos hj] at hu
   rw [hcell j (by omega)]
   cases hzj:zs[j]? with
   | none=>rw [hzj] at hu;cases hu
   | some z=>rw [hzj] at hu;simpa [List.getD_eq_getElem?_getD,hzj] using hu
  ·rw [if_neg hj] at hu;cases hu
theorem bytes_bl2 (s:ByteArray):bvals s=bl s.data.toList:=rfl
end
end
end Go.Proofs.YtekajggjoeimoaaGreatDoor
