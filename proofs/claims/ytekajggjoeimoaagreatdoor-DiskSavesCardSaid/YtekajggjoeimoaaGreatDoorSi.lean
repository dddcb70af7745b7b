/- A part of the proof of DiskSaves. No condition of its own. -/
import Derived.Test.YtekajggjoeimoaaGreatDoorSh
import Derived.Test.YtekajggjoeimoaaGreatDoorSg
set_option linter.unusedVariables false
namespace Go.Proofs.YtekajggjoeimoaaGreatDoor
section
open Go.RowKit
def foldQ (p:List DE × Nat) (l:List Cq):List DE × Nat:=l.foldl (fun p c=>turnQ p.1 p.2 c) p
def okF:List DE × Nat→List Cq→Prop
 | _,[]=>True
 | p,c::l=>okQ p.1 c∧(c.f=none∨c.to=ByteArray.empty)∧okF (turnQ p.1 p.2 c) l
theorem foldQ_snoc (p:List DE × Nat) (l:List Cq) (c:Cq):foldQ p (l++[c])=turnQ (foldQ p l).1 (foldQ p l).2 c:=by unfold foldQ;rw [List.foldl_append];rfl
theorem okF_at:∀ {l:List Cq} {p:List DE × Nat} {j:Nat} {c:Cq},okF p l→l[j]?=some c→okQ (foldQ p (l.take j)).1 c∧(c.f=none∨c.to=ByteArray.empty)
 | [],p,j,c,_,h=>by simp at h
 | x::l,p,0,c,h,hj=>by simp at hj;subst hj;exact ⟨h.1,h.2.1⟩
 | x::l,p,j+1,c,h,hj=>by
  have:=okF_at (l:=l) (p:=turnQ p.1 p.2 x) (j:=j) h.2.2 (by simpa using hj)
  exact this
theorem foldQ_ok:∀ {l:List Cq} {p:List DE × Nat},MapOK p.1 p.2→okF p l→MapOK (foldQ p l).1 (foldQ p l).2
 | [],p,h,_=>h
 | c::l,p,h,ho=>foldQ_ok (l:=l) (p:=turnQ p.1 p.2 c) (turnQ_ok h ho.1) ho.2.2
def stepC (keep:List Int) (i:Nat) (x:Wr) (C:Nat→Bool→List ByteArray):Nat→Bool→List ByteArray:=if (i:Int)∈keep then upd C x.f false ((C x.f false).set x.n x.s) else C
def crashC (keep:List Int):Nat→List Wr→(Nat→Bool→List ByteArray)→Nat→Bool→List ByteArray
 | _,[],C=>C
 | i,x::l,C=>crashC keep (i+1) l (stepC keep i x C)
theorem crashC_snoc (keep:List Int):∀ (l:List Wr) (i:Nat) (x:Wr) (C:Nat→Bool→List ByteArray),crashC keep i (l++[x]) C=stepC keep (i+l.length) x (crashC keep i l C)
 | [],i,x,C=>rfl
 | y::l,i,x,C=>by
  show crashC keep (i+1) (l++[x]) _=_
  rw [crashC_snoc keep l (i+1) x,List.length_cons,show i+1+l.length=i+(l.length+1) by omega]
  rfl
theorem stepC_len (keep:List Int) (i:Nat) (x:Wr) (C:Nat→Bool→List ByteArray) (f:Nat) (b:Bool):(stepC keep i x C f b).length=(C f b).length:=by
 unfold stepC
 split
 ·unfold upd
  split
  ·rename_i h;obtain ⟨rfl,rfl⟩:=h;simp
  ·rfl
 ·rfl
theorem crashC_len (keep:List Int) (f:Nat) (b:Bool):∀ (l:List Wr) (i:Nat) (C:Nat→Bool→List ByteArray),(crashC keep i l C f b).length=(C f b).length
 | [],_,_=>rfl
 | x::l,i,C=>(crashC_len keep f b l (i+1) _).trans (stepC_len keep i x C f b)
section
variable {X X':Nat→Prop} {w w1 w2 w3 w4:World} {db M1 M2:Nat} {v3 v4:Value} {q q':DQ} {fs:List Nat} {V:Nat→Bool→Value} {C:Nat→Bool→List ByteArray}
theorem DiskV.mapTo1 (h:DiskV X w db M1 M2 v3 v4 q) {l:List DE} {ck:Nat} (hm:MapTo w w2 M1 (l.map DE.ent).toArray ck) (ho:MapOK l ck):DiskV X w2 db M1 M2 v3 v4 {q with dir:=l,dck:=ck} :=
 h.cells (fun _ h=>h) (q':={q with dir:=l,dck:=ck}) ((hm.block db (Ne.symm h.m1_ne)).trans h.blk) hm.map ((hm.block M2 (Ne.symm h.ne)).trans h.m2) h.ne h.inX1 h.inX2 ho h.ok2
  (h.chs.keep (fun k cs hx hk h3=>(hm.block k (map_row_ne h.m1 h.chs hk)).trans h3) (fun _ h=>h)) (h.wrs.keep (fun k cs hx hk h3=>(hm.block k (map_row_ne h.m1 h.wrs hk)).trans h3) (fun _ h=>h))
def CrashRel1 (X:Nat→Prop) (W:World) (db M1 M2:Nat) (v3 v4:Value) (q:DQ) (n:Nat) (i:Value) (wr:World):Prop :=
 ∃ j,j≤n∧i=.int .i64 j∧DiskV X wr db M1 M2 v3 v4 {q with dir:=(foldQ (q.dir,q.dck) (q.chs.take j)).1,dck:=(foldQ (q.dir,q.dck) (q.chs.take j)).2}∧Same FT X W wr∧Fr X W wr
def CrashRel2 (X:Nat→Prop) (W:World) (db M1 M2:Nat) (v3 v4:Value) (q:DQ) (fs:List Nat) (V:Nat→Bool→Value) (C:Nat→Bool→List ByteArray) (ks:List Int) (i:Value) (wr:World):Prop :=
 ∃ j,j≤q.wrs.length∧i=.int .i64 j∧DiskV X wr db M1 M2 v3 v4 q∧FilesV X wr fs V (crashC ks 0 (q.wrs.take j) C)∧Fr X W wr
theorem ItAt.keep {w1 w2:World} {r M f o:Nat} {l:List DE} {ck:Nat} {seen:Array Nat} {t:TypeId} {cs:Array Value} {u:Value} (h:ItAt w1 r M l ck seen) (hb:Below w1.heap.size w1 w2) (hf:Blk w2 f t cs):ItAt (w2.setCell ⟨f,o,none⟩ u) r M l ck seen:=by
 have h1:=(hb.block _ (Array.getElem?_eq_some_iff.1 h.1).1).trans h.1
 have h2:=(hb.block _ (Array.getElem?_eq_some_iff.1 h.2).1).trans h.2
 unfold Blk at hf
 refine ⟨(Below.heap_setCell _ _ _ _ (fun e=>?_)).trans h1,(Below.heap_setCell _ _ _ _ (fun e=>?_)).trans h2⟩
 ·have e':r=f:=e
  subst e';rw [hf] at h1;cases h1
 ·have e':M=f:=e
  subst e';rw [hf] at h2;cases h2
def nowC (C:Nat→Bool→List ByteArray) (l:List DE):Nat→Bool→List ByteArray:=fun f b=>if b=true∧f∈l.map DE.f then C f false else C f b
theorem nowC_nil {C:Nat→Bool→List ByteArray} {l:List DE}:nowC C (seenL l #[])=C:=by
 have e:seenL l #[]=[]:=List.filter_eq_nil_iff.2 (fun x _=>by simp)
 rw [e]
 funext f b
 unfold nowC
 simp
theorem nowC_push {C:Nat→Bool→List ByteArray} {l:List DE} {ck:Nat} (h:MapOK l ck) {seen:Array Nat} {x:DE} (hx:x∈l) (hs:seen.contains x.born=false):nowC C (seenL l (seen.push x.born))=upd (nowC C (seenL l seen)) x.f true (C x.f false):=by
 have hp:=(seenL_push seen x hs l h.born_nodup hx).map DE.f
 funext f b
 unfold nowC upd
 cases b with
 | false=>simp
 | true =>
  by_cases e:f=x.f
  ·subst e
   rw [if_pos (show true=true∧x.f∈(seenL l (seen.push x.born)).map DE.f from ⟨rfl,hp.mem_iff.2 (by simp)⟩),if_pos ⟨rfl,rfl⟩]
  ·rw [if_neg (show ¬ (f=x.f∧true=true) from fun h=>e h.1)]
   have:f∈(seenL l (seen.push x.born)).map DE.f↔f∈(seenL l seen).map DE.f:=by
    rw [hp.mem_iff,List.map_cons,List.mem_cons]
    exact ⟨fun h=>h.resolve_left e,.inr⟩
   simp only [this]
def CrashRel3 (X:Nat→Prop) (w:World) (r db M1 M2:Nat) (v3 v4:Value) (q:DQ) (fs:List Nat) (C:Nat→Bool→List ByteArray) (wz:World):Prop :=
 ∃ seen,ItAt wz r M1 q.dir q.dck seen∧DiskV X wz db M1 M2 v3 v4 q∧(∃ V,FilesV (fun k=>More X w k∧k<wz.heap.size) wz fs V (nowC C (seenL q.dir seen)))∧Fr X w wz∧r<wz.heap.size
set_option maxHeartbeats 8000000 in
set_option maxRecDepth 100000 in
theorem Crash_any (hF:FilesV X w fs V C) (h:DiskV X w db M1 M2 v3 v4 q) (hb:∀ k,X k→k<w.heap.size) (changes:Int) (hch:-9223372036854775808≤changes∧changes≤9223372036854775807) {Ak:Option Addr} {ck:Nat} {ks:List Int}
 (hk:∀ W,Fr X w W→Reads W W.heap.size 1 Ak ks.length (ks.map (.int .i64))) (hks:ks.length≤1000000) (hm:q.wrs.length≤1000) (hc:q.chs.length≤1000)
 {n:Nat} (hn:n=min changes.toNat q.chs.length) (hok:okF (q.dir,q.dck) (q.chs.take n)) (hwf:∀ y∈q.wrs,y.f∈fs∧y.n<(C y.f false).length) (hlen:∀ f∈fs,(C f false).length≤5000) (hdir:∀ x∈(foldQ (q.dir,q.dck) (q.chs.take n)).1,x.f∈fs) :
 Calls Tryz.prog 19 #[.pointer (some ⟨db,0,none⟩),.int .i64 changes,.slice Ak ks.length ck] w fun e w'=>e=.returned (.tuple #[])∧Left X w db M1 fs (nowC (crashC ks 0 q.wrs C) (foldQ (q.dir,q.dck) (q.chs.take n)).1)
  {q with dir:=(foldQ (q.dir,q.dck) (q.chs.take n)).1,dck:=(foldQ (q.dir,q.dck) (q.chs.take n)).2,now:=(foldQ (q.dir,q.dck) (q.chs.take n)).1,nck:=(foldQ (q.dir,q.dck) (q.chs.take n)).2,chs:=[],wrs:=[],armed:=false} w':=by
 obtain ⟨A3,c3,rfl⟩:=h.chs.form
 obtain ⟨A4,c4,rfl⟩:=h.wrs.form
 have e3:w.cell? ⟨db,3,none⟩=some (.slice A3 q.chs.length c3):=h.blk.cell 3
 go_enter Tryz.func19,Tryz.ntmps19
 have hcp:q.chs.length≤c3∧c3≤maxLen:=by
  rcases h.chs.1.2 with ⟨h1,_⟩ | ⟨g,cap,cur,h1,_,_,h2,h3,_⟩
  ·simp only [Value.slice.injEq] at h1
   obtain ⟨_,h4,h5⟩:=h1
   simp [maxLen];omega
  ·simp only [Value.slice.injEq] at h1
   obtain ⟨_,_,rfl⟩:=h1
   exact ⟨h2,h3⟩
 simp only [maxLen] at hcp
 obtain ⟨a,ha⟩:∃ a:Int,(if (q.chs.length:Int)<changes then (q.chs.length:Int) else changes)=a:=⟨_,rfl⟩
 have hmx:(if a > 0 then a else 0)=(n:Int):=by
  rw [hn,←ha]
  split <;> split <;> omega
 have i0:(0:Int)≤(n:Int):=by omega
 have i1:(n:Int)≤(c3:Int):=by omega
 have i2:(n:Int)≤9223372036854775807:=by omega
 have hnc:n≤q.chs.length:=by omega
 have HN:=Lib.hid hn
 clear hn
 go_wp2_with fail
 go_quiet (fail)
 have hD0:DiskV X (w.drewN nq) db M1 M2 (.slice A3 q.chs.length c3) (.slice A4 q.wrs.length c4) q:=h.keep (fun _ h=>h) Same.refl (fun _ _ _ _ h=>h)
 have hF0:FilesV X (w.drewN nq) fs V C:=hF.keep (fun _ h=>h) Same.refl
 have f0:Fr X w (w.drewN nq):=⟨rfl,rfl,rfl,Nat.le_refl _,fun _ _ _=>rfl⟩
 obtain ⟨W,hW⟩:∃ W,w.drewN nq=W:=⟨_,rfl⟩
 rw [hW] at hD0 hF0 f0 ⊢
 clear hW hmx ha i0 i1 i2
 go_wp2
 go_loopw [28] (fun i wr=>CrashRel1 X W db M1 M2 (.slice A3 q.chs.length c3) (.slice A4 q.wrs.length c4) q n i wr) (fun i _=>n-(intOf i).toNat)
 case atStart=>exact ⟨0,Nat.zero_le _,rfl,hD0,Same.refl,Fr.refl _ _⟩
 case round =>
  obtain ⟨j,hj,rfl,hD,hS,hfr⟩:=hrel
  by_cases hlt:j<n
  ·have d1:decide (j<n)=true:=by simpa using hlt
   obtain ⟨c,hcj⟩:∃ c,q.chs[j]?=some c:=⟨_,List.getElem?_eq_getElem (by omega)⟩
   obtain ⟨g,c',cur,hv,hXg,hg,hsz,hcur⟩:=hD.chs.row (by show 0<q.chs.length;omega)
   obtain ⟨rfl,_,rfl⟩:A3=some ⟨g,0,none⟩∧q.chs.length=q.chs.length∧c3=c':=by simpa using hv
   have e0:wr.cell? ⟨g,j*3,none⟩=some (.string c.nm):=(hg.cell _).trans (hcur _ _ ((cqcells_at hcj 0 (by omega)).trans rfl))
   have e1:wr.cell? ⟨g,j*3+1,none⟩=some (.string c.to):=(hg.cell _).trans (hcur _ _ ((cqcells_at hcj 1 (by omega)).trans rfl))
   have e2:wr.cell? ⟨g,j*3+2,none⟩=some (.pointer (c.f.map fun f=>⟨f,0,none⟩)):=(hg.cell _).trans (hcur _ _ ((cqcells_at hcj 2 (by omega)).trans rfl))
   have i0:(0:Int)≤(j:Int):=by omega
   have i1:(j:Int)<(n:Int):=by omega
   have htk:(q.chs.take n)[j]?=some c:=by rw [List.getElem?_take,if_pos hlt];exact hcj
   obtain ⟨hq1,hq2⟩:=okF_at hok htk
   rw [List.take_take,Nat.min_eq_left (by omega)] at hq1
   have hDA:=hD.below ((Below.refl _ _).alloc (Nat.le_refl _) (.cells #[.string c.nm,.string c.to,.pointer (c.f.map fun f=>⟨f,0,none⟩)] 108))
   have hT:=dirturn_any (w:=(wr.alloc (.cells #[.string c.nm,.string c.to,.pointer (c.f.map fun f=>⟨f,0,none⟩)] 108)).drew) hDA.m1 hq1 hq2
   unfold Cq.arr at hT
   have bx:=Blk.new wr 108 #[.string c.nm,.string c.to,.pointer (c.f.map fun f=>⟨f,0,none⟩)]
   have x0:=bx.cell 0
   have x1:=bx.cell 1
   have x2:=bx.cell 2
   have k1:(wr.alloc (.cells #[.string c.nm,.string c.to,.pointer (c.f.map fun f=>⟨f,0,none⟩)] 108)).cell? ⟨db,1,none⟩=some (.map (some M1)):=hDA.blk.cell 1
   have hts:q.chs.take (j+1)=q.chs.take j++[c]:=by rw [List.take_add_one,hcj];rfl
   have HTS:=Lib.hid hts
   clear hts hcj htk hcur
   go_wp2_with fail
   refine wp_region_tail 5 (by kernel_rfl) (by kernel_rfl) ?_
   repeat still_step
   refine wpStill_nil ?_
   go_wp2_with (go_at_call 60;refine hT.mono ?_;rintro e w2 ⟨rfl,hm2⟩)
   have hDB:DiskV X (wr.alloc (.cells #[.string c.nm,.string c.to,.pointer (c.f.map fun f=>⟨f,0,none⟩)] 108)).drew db M1 M2 (.slice (some ⟨g,0,none⟩) q.chs.length c3) (.slice A4 q.wrs.length c4) _:=hDA.keep (fun _ h=>h) Same.refl (fun _ _ _ _ h=>h)
   have hDC:=hDB.below ((Below.refl _ _).alloc (Nat.le_refl _) (.cells #[.string c.nm,.string c.to,.pointer (c.f.map fun f=>⟨f,0,none⟩)] 108))
   have hDD:=hDC.mapTo1 hm2 (turnQ_ok hD.ok1 hq1)
   go_roundw
   case rel =>
    refine ⟨j+1,by omega,by go_num,?_,?_,?_⟩
    ·rw [HTS.out,foldQ_snoc];exact hDD
    ·have s1:Same FT X wr (wr.alloc (.cells #[.string c.nm,.string c.to,.pointer (c.f.map fun f=>⟨f,0,none⟩)] 108)):=Same.of_below ((Below.refl _ _).alloc (Nat.le_refl _) _)
     have s2:Same FT X (wr.alloc (.cells #[.string c.nm,.string c.to,.pointer (c.f.map fun f=>⟨f,0,none⟩)] 108)).drew ((wr.alloc (.cells #[.string c.nm,.string c.to,.pointer (c.f.map fun f=>⟨f,0,none⟩)] 108)).drew.alloc (.cells #[.string c.nm,.string c.to,.pointer (c.f.map fun f=>⟨f,0,none⟩)] 108)):=Same.of_below ((Below.refl _ _).alloc (Nat.le_refl _) _)
     have s3:Same FT X _ w2:=same_map hDC.m1 hm2
     exact ((hS.trans s1).trans s2).trans s3
    ·exact hm2.frX (((hfr.alloc _).drew).alloc _) (.inr hD.inX1)
   case measure=>simp [intOf];omega
  ·obtain rfl:j=n:=by omega
   have d1:decide (j<j)=false:=by simp
   have hf1:=hF0.keep (fun _ h=>h) hS
   have fr1:Fr X w wr:=f0.trans hfr
   have hE:=hD.blk
   have e4:wr.cell? ⟨db,4,none⟩=some (.slice A4 q.wrs.length c4):=hE.cell 4
   obtain ⟨q1,hq1⟩:∃ q1:DQ,({q with dir:=(foldQ (q.dir,q.dck) (q.chs.take j)).1,dck:=(foldQ (q.dir,q.dck) (q.chs.take j)).2}:DQ)=q1:=⟨_,rfl⟩
   have hqw:q1.wrs=q.wrs:=by rw [←hq1]
   have hqc:q1.chs=q.chs:=by rw [←hq1]
   rw [hq1] at hD
   rw [←hqw] at hm hwf e4 hD ⊢
   have HQ1:=Lib.hid hq1
   have HQW:=Lib.hid hqw
   have HQC:=Lib.hid hqc
   clear hqw hqc hq1 hE hS hfr hD0 hF0 f0 h hF e3
   go_wp2_with fail
   go_loopw [44] (fun i wr2=>CrashRel2 X wr db M1 M2 (.slice A3 q.chs.length c3) (.slice A4 q1.wrs.length c4) q1 fs V C ks i wr2) (fun i _=>q1.wrs.length-(intOf i).toNat)
   case atStart=>exact ⟨0,Nat.zero_le _,rfl,hD,hf1,Fr.refl _ _⟩
   case round =>
    obtain ⟨p,hp,rfl,hD2,hF2,hfr2⟩:=hrel
    have fr2:Fr X w wr:=fr1.trans hfr2
    by_cases hlt2:p<q1.wrs.length
    ·have d2:decide (p<q1.wrs.length)=true:=by simpa using hlt2
     obtain ⟨y,hy⟩:∃ y,q1.wrs[p]?=some y:=⟨_,List.getElem?_eq_getElem hlt2⟩
     obtain ⟨g,c',cur,hv,hXg,hg,hsz,hcur⟩:=hD2.wrs.row (by omega)
     obtain ⟨rfl,_,rfl⟩:A4=some ⟨g,0,none⟩∧q1.wrs.length=q1.wrs.length∧c4=c':=by simpa using hv
     have e0:wr.cell? ⟨g,p*3,none⟩=some (.pointer (some ⟨y.f,0,none⟩)):=(hg.cell _).trans (hcur _ _ ((wcells_at hy 0 (by omega)).trans rfl))
     have e1:wr.cell? ⟨g,p*3+1,none⟩=some (.int .i64 y.n):=(hg.cell _).trans (hcur _ _ ((wcells_at hy 1 (by omega)).trans rfl))
     have e2:wr.cell? ⟨g,p*3+2,none⟩=some (.string y.s):=(hg.cell _).trans (hcur _ _ ((wcells_at hy 2 (by omega)).trans rfl))
     have i0:(0:Int)≤(p:Int):=by omega
     have i1:(p:Int)<(q1.wrs.length:Int):=by omega
     obtain ⟨hyf,hyn⟩:=hwf y (List.mem_of_getElem? hy)
     have bx:=Blk.new wr 106 #[.pointer (some ⟨y.f,0,none⟩),.int .i64 y.n,.string y.s]
     have bW:Below wr.heap.size wr (wr.alloc (.cells #[.pointer (some ⟨y.f,0,none⟩),.int .i64 y.n,.string y.s] 106)):=(Below.refl _ _).alloc (Nat.le_refl _) _
     have hDA:=hD2.below bW
     have hFA:=hF2.keep (fun _ h=>h) (Same.of_below (T:=FT) (X:=X) bW)
     have hCt:=Contains_ints (hk _ (fr2.alloc (.cells #[.pointer (some ⟨y.f,0,none⟩),.int .i64 y.n,.string y.s] 106))) hks (c:=ck) (p:Int)
     have hts:q1.wrs.take (p+1)=q1.wrs.take p++[y]:=by rw [List.take_add_one,hy];rfl
     have hcs:=crashC_snoc ks (q1.wrs.take p) 0 y C
     rw [List.length_take,Nat.min_eq_left (by omega),Nat.zero_add] at hcs
     have HTS:=Lib.hid hts
     have HCS:=Lib.hid hcs
     have x0:=bx.cell 0
     have x1:=bx.cell 1
     have x2:=bx.cell 2
     clear hts hcs hy hcur
     by_cases hin:(p:Int)∈ks
     ·rw [decide_eq_true hin] at hCt
      have HIN:=Lib.hid hin
      clear hin
      obtain ⟨gs,cs',cu,hVs,hXs,hgs,hszs,hcus⟩:=(hFA.row y.f hyf false).row (by rw [crashC_len];omega)
      have hlc:(crashC ks 0 (q1.wrs.take p) C y.f false).length=(C y.f false).length:=crashC_len ks y.f false _ _ _
      rw [hlc] at hVs
      have hln:=hlen y.f hyf
      have hfb:=hFA.blk y.f hyf
      rw [hVs] at hfb
      have s0:(wr.alloc (.cells #[.pointer (some ⟨y.f,0,none⟩),.int .i64 y.n,.string y.s] 106)).cell? ⟨y.f,0,none⟩=some (.slice (some ⟨gs,0,none⟩) (C y.f false).length cs'):=hfb.cell 0
      obtain ⟨u,hu⟩:∃ u,cu[y.n]?=some u:=⟨_,Array.getElem?_eq_getElem (by omega)⟩
      have s1:(wr.alloc (.cells #[.pointer (some ⟨y.f,0,none⟩),.int .i64 y.n,.string y.s] 106)).cell? ⟨gs,y.n,none⟩=some u:=(hgs.cell _).trans hu
      have s2:=hgs.frozen y.n
      have k0:(0:Int)≤(y.n:Int):=by omega
      have k1:(y.n:Int)<((C y.f false).length:Int):=by omega
      have hFB:=hFA.set (b:=false) hyf hVs (by rw [hlc];exact hyn) y.s
      clear hu hszs hcus hfb
      go_wp2_with (go_at_call 61;refine hCt.mono ?_;rintro e w9 ⟨rfl,rfl⟩)
      refine wp_region_tail 10 (by kernel_rfl) (by kernel_rfl) ?_
      repeat still_step
      refine wpStill_nil ?_
      go_wp2
      have hDB:DiskV X ((wr.alloc (.cells #[.pointer (some ⟨y.f,0,none⟩),.int .i64 y.n,.string y.s] 106)).setCell ⟨gs,y.n,none⟩ (.string y.s)).drew db M1 M2 (.slice A3 q.chs.length c3) (.slice (some ⟨g,0,none⟩) q1.wrs.length c4) q1:=(hDA.keep (fun _ h=>h) (same_set hgs (by rintro (e | e | e) <;> cases e)) (sameM_set hgs)).keep (fun _ h=>h) Same.refl (fun _ _ _ _ h=>h)
      refine ⟨⟨p+1,by omega,by go_num,hDB,?_,((hfr2.alloc _).setCell (p:=⟨gs,y.n,none⟩) (.inr hXs) _).drew⟩,by simp [intOf];omega⟩
      rw [HTS.out,HCS.out]
      unfold stepC
      rw [if_pos HIN.out]
      exact hFB.keep (fun _ h=>h) Same.refl
     ·rw [decide_eq_false hin] at hCt
      have HIN:=Lib.hid hin
      clear hin
      go_wp2_with (go_at_call 61;refine hCt.mono ?_;rintro e w9 ⟨rfl,rfl⟩)
      go_roundw
      case rel =>
       refine ⟨p+1,by omega,by go_num,hDA,?_,hfr2.alloc _⟩
       rw [HTS.out,HCS.out]
       unfold stepC
       rw [if_neg HIN.out]
       exact hFA
      case measure=>simp [intOf];omega
    ·obtain rfl:p=q1.wrs.length:=by omega
     have d2:decide (q1.wrs.length<q1.wrs.length)=false:=by simp
     rw [List.take_length] at hF2
     obtain ⟨C2,hC2⟩:∃ C2,crashC ks 0 q1.wrs C=C2:=⟨_,rfl⟩
     have hC2l:∀ f,(C2 f false).length=(C f false).length:=fun f=>by rw [←hC2];exact crashC_len ks f false _ _ _
     rw [hC2] at hF2
     have HC2:=Lib.hid hC2
     have HC2L:=Lib.hid hC2l
     clear hC2 hC2l
     have e5:wr.cell? ⟨db,1,none⟩=some (.map (some M1)):=hD2.blk.cell 1
     have hrg:=run_range_map (P:=Tryz.prog) wr 62 _ _ M1 _ q1.dck Tryz.underlying62 hD2.m1
     have hMl:=(Array.getElem?_eq_some_iff.1 hD2.m1).1
     have hsz2:=fr2.size
     go_wp2
     go_loopw [11] (fun _ wz=>CrashRel3 X w wr.heap.size db M1 M2 (.slice A3 q.chs.length c3) (.slice A4 q1.wrs.length c4) q1 fs C2 wz) (fun _ wz=>(leftOf (q1.dir.map DE.ent).toArray (wz.iterSeen wr.heap.size)).size)
     case atStart =>
      have bI:Below wr.heap.size wr (wr.alloc (.mapIter (some M1) q1.dck #[] q1.dck)):=(Below.refl _ _).alloc (Nat.le_refl _) _
      refine ⟨#[],⟨heap_alloc_new wr _,(Below.heap_alloc _ _ _ hMl).trans hD2.m1⟩,hD2.below bI,⟨V,?_⟩,fr2.alloc _,by simp⟩
      rw [nowC_nil]
      exact (hF2.keep (X':=More X w) (fun _=>more_left) (Same.of_below bI)).bound
     case round =>
      obtain ⟨seen,hit,hD3,⟨V3,hF3⟩,fr3,hrl⟩:=hrel
      rcases it_step hit hD3.ok1 with ⟨h0,hnx⟩ | ⟨x,hx,hs,hsm,w1,hnx,hen,hit1,ho,ht,hu,hsz,hbl⟩
      ·have e0:=seenL_all q1.dir seen h0
       rw [e0] at hF3
       have hb3:=hD3.blk
       have hm1:=hD3.m1
       have m1:wr.cell? ⟨db,1,none⟩=some (.map (some M1)):=hb3.cell 1
       obtain ⟨W6,hW6⟩:∃ W6,wr.alloc (.map (q1.dir.map DE.ent).toArray q1.dck)=W6:=⟨_,rfl⟩
       have hB6:Below wr.heap.size wr W6:=hW6 ▸ (Below.refl _ _).alloc (Nat.le_refl _) _
       have hn6:W6.heap[wr.heap.size]?=some (.map (q1.dir.map DE.ent).toArray q1.dck):=hW6 ▸ heap_alloc_new wr _
       have hD6:=hD3.below hB6
       have b6:=hD6.blk
       have m2:W6.cell? ⟨db,2,none⟩=some (.map (some M2)):=b6.cell 2
       have z2:=b6.frozen 2
       have b7:=b6.set_ 2 (.map (some wr.heap.size))
       have m3:(W6.setCell ⟨db,2,none⟩ (.map (some wr.heap.size))).cell? ⟨db,3,none⟩=some (.slice A3 q.chs.length c3):=b7.cell 3
       have z3:=b7.frozen 3
       have b8:=b7.set_ 3 (.slice none 0 0)
       have m4:((W6.setCell ⟨db,2,none⟩ (.map (some wr.heap.size))).setCell ⟨db,3,none⟩ (.slice none 0 0)).cell? ⟨db,4,none⟩=some (.slice A4 q1.wrs.length c4):=b8.cell 4
       have z4:=b8.frozen 4
       have b9:=b8.set_ 4 (.slice none 0 0)
       have m5:(((W6.setCell ⟨db,2,none⟩ (.map (some wr.heap.size))).setCell ⟨db,3,none⟩ (.slice none 0 0)).setCell ⟨db,4,none⟩ (.slice none 0 0)).cell? ⟨db,5,none⟩=some (.bool q1.armed):=b9.cell 5
       have z5:=b9.frozen 5
       go_wp2_with (go_at_call 62;refine (MClone_any hm1).mono ?_;rintro e w8 ⟨rfl,rfl⟩)
       go_end0
       have b10:=b9.set_ 5 (.bool false)
       have hoth:∀ k,k≠db→((((W6.setCell ⟨db,2,none⟩ (.map (some wr.heap.size))).setCell ⟨db,3,none⟩ (.slice none 0 0)).setCell ⟨db,4,none⟩ (.slice none 0 0)).setCell ⟨db,5,none⟩ (.bool false)).heap[k]?=W6.heap[k]?:=fun k hk =>
        (Below.heap_setCell _ _ _ _ hk).trans ((Below.heap_setCell _ _ _ _ hk).trans ((Below.heap_setCell _ _ _ _ hk).trans (Below.heap_setCell _ _ _ _ hk)))
       have hdl:=hD3.blk.lt
       have hml:=(Array.getElem?_eq_some_iff.1 hD3.m1).1
       have hfz:=fr3.size
       have hDf:DiskV (More X w) ((((W6.setCell ⟨db,2,none⟩ (.map (some wr.heap.size))).setCell ⟨db,3,none⟩ (.slice none 0 0)).setCell ⟨db,4,none⟩ (.slice none 0 0)).setCell ⟨db,5,none⟩ (.bool false)) db M1 wr.heap.size (.slice none 0 0) (.slice none 0 0) {q1 with now:=q1.dir,nck:=q1.dck,chs:=[],wrs:=[],armed:=false} :=
        hD6.cells (X':=More X w) (fun _=>more_left) (q':={q1 with now:=q1.dir,nck:=q1.dck,chs:=[],wrs:=[],armed:=false}) b10 ((hoth _ hD6.m1_ne).trans hD6.m1) ((hoth _ (by omega)).trans hn6) (by omega) (more_left hD3.inX1) (.inr hfz) hD3.ok1 hD3.ok1 RowX.nil RowX.nil
       have hFf:FilesV (More X w) ((((W6.setCell ⟨db,2,none⟩ (.map (some wr.heap.size))).setCell ⟨db,3,none⟩ (.slice none 0 0)).setCell ⟨db,4,none⟩ (.slice none 0 0)).setCell ⟨db,5,none⟩ (.bool false)) fs V3 (nowC C2 q1.dir) :=
        hF3.keep (fun k hk=>hk.1) ((((((Same.of_below hB6).trans (same_set b6 (by rintro (e | e) <;> cases e))).trans (same_set b7 (by rintro (e | e) <;> cases e))).trans (same_set b8 (by rintro (e | e) <;> cases e)))).trans (same_set b9 (by rintro (e | e) <;> cases e)))
       have f6:Fr X w W6:=fr3.trans (Fr.of_below hB6)
       have f7:=(((f6.setCell (p:=⟨db,2,none⟩) (.inr hD3.inX) (.map (some wr.heap.size))).setCell (p:=⟨db,3,none⟩) (.inr hD3.inX) (.slice none 0 0)).setCell (p:=⟨db,4,none⟩) (.inr hD3.inX) (.slice none 0 0)).setCell (p:=⟨db,5,none⟩) (.inr hD3.inX) (.bool false)
       have hq1:=HQ1.out
       have hC2:=HC2.out
       rw [HQW.out] at hC2
       rw [hC2]
       subst hq1
       exact ⟨rfl,⟨⟨_,_,_,hDf⟩,⟨_,hFf⟩,f7⟩⟩
      ·have hen1:=hen w1 hit1
       clear hen
       have hxf:x.f∈fs:=hdir x (by have:=HQ1.out;rw [←this] at hx;exact hx)
       have hri:=hit.1
       have hMi:=hit.2
       have hkr:∀ (k:Nat) (cs:Array Value) (t:TypeId),wr.heap[k]?=some (Obj.cells cs t (0,0))→w1.heap[k]?=some (Obj.cells cs t (0,0)):=fun k cs t h=>(hbl k (fun e=>by subst e;rw [hri] at h;cases h)).trans h
       have hD4:DiskV X w1 db M1 M2 (.slice A3 q.chs.length c3) (.slice A4 q1.wrs.length c4) q1:=hD3.keep (fun _ h=>h) (fun k cs t _ _ h=>hkr k cs t h) (fun k es c _ h=>(hbl k (fun e=>by subst e;rw [hri] at h;cases h)).trans h)
       have hF4:=hF3.keep (X':=fun k=>More X w k∧k<wr.heap.size) (w':=w1) (fun _ h=>h) (fun k cs t _ _ h=>hkr k cs t h)
       have fr4:Fr X w w1:=⟨ho.trans fr3.os,ht.trans fr3.tape,hu.trans fr3.output,by rw [hsz];exact fr3.size,fun k hk hx=>(hbl k (by omega)).trans (fr3.block k hk hx)⟩
       obtain ⟨A5,c5,hV5⟩:=(hF4.row x.f hxf false).form
       have hr5:=hF4.row x.f hxf false
       rw [hV5] at hr5
       have hnf:nowC C2 (seenL q1.dir seen) x.f false=C2 x.f false:=by unfold nowC;rw [if_neg (by simp)]
       rw [hnf] at hV5 hr5
       have hfb:=hF4.blk x.f hxf
       rw [hV5] at hfb
       have y0:w1.cell? ⟨x.f,0,none⟩=some (.slice A5 (C2 x.f false).length c5):=hfb.cell 0
       have hCl:=Clone_row hr5 (by rw [HC2L.out];exact hlen x.f hxf)
       unfold DE.val at hnx hen1
       go_wp2_with (go_at_call 53;refine hCl.mono ?_;rintro e w2 ⟨A7,c7,rfl,ho7,hB7⟩;have hf7:Blk w2 x.f 103 _:=(hB7.block x.f hfb.lt).trans hfb;have y1:w2.cell? ⟨x.f,1,none⟩=some (V3 x.f true):=hf7.cell 1;have z1:=hf7.frozen 1)
       go_roundw
       case rel =>
        have hnp:=nowC_push (C:=C2) hD3.ok1 hx hs
        have hrw1:wr.heap.size=w1.heap.size:=hsz.symm
        have hF5:=hF4.keep (X':=fun k=>More X w k∧k<wr.heap.size) (fun _ h=>h) (Same.of_below (T:=FT) (X:=fun k=>More X w k∧k<wr.heap.size) hB7)
        have hfz:=fr3.size
        have hF6:=hF5.turn (b:=true) (X':=More X w) (w1:=w2) (v':=.slice A7 (C2 x.f false).length c7) (l':=C2 x.f false) hxf (fun k hk=>hk.1) (fun k cs t _ _ _ h=>h) ⟨own_base ho7,fun k hk=>.inr (by have:=(ho7.lt k hk).1;omega)⟩ (.inr (fun k hk hx=>by have:=(ho7.lt k hk).1;have:=hx.2;omega))
        rw [←hnp] at hF6
        refine ⟨seen.push x.born,hit1.keep hB7 hf7,?_,⟨_,hF6.bound⟩,?_,?_⟩
        ·exact (hD4.below hB7).keep (fun _ h=>h) (same_set hf7 (by rintro (e | e | e) <;> cases e)) (sameM_set hf7)
        ·exact (fr4.trans (Fr.of_below hB7)).setCell (p:=⟨x.f,1,none⟩) (by have:=(hF4.inX x.f hxf).1;rcases this with h | h;exact .inr h;exact .inl h) _
        ·have:=hB7.size
         simp [World.setCell]
         omega
       case measure =>
        rw [hit.seen]
        have hq:=(hit1.keep (o:=1) (u:=.slice A7 (C2 x.f false).length c7) hB7 hf7).seen
        rw [hq]
        exact hsm
end
end
section
open Go.RowKit
def wrq (fb:Nat→Nat) (x:PW):Wr:=⟨fb x.id,x.n,x.s⟩
structure Tie (fb:Nat→Nat) (fs:List Nat) (C:Nat→Bool→List ByteArray) (q:DQ) (p:DP):Prop where
 wf:WF p
 arms:q.room=p.room∧q.armed=p.armed∧q.after=p.after∧q.code=p.code
 ok1:MapOK q.dir q.dck
 ok2:MapOK q.now q.nck
 dir:∀ x,lkF x q.dir=(findP x p.dir).map fb
 now:∀ x,lkF x q.now=(findP x p.now).map fb
 chs:q.chs=p.chs.map (chq fb)
 wrs:q.wrs=p.wrs.map (wrq fb)
 inj:∀ i∈p.live,∀ j∈p.live,fb i=fb j→i=j
 mem:∀ i∈p.live,fb i∈fs
 cs:∀ i∈p.live,C (fb i) false=p.file i
 cn:∀ i∈p.live,C (fb i) true=p.cont i
theorem lkF_iff {l:List DE} (hn:(l.map DE.nm).Nodup) (a:ByteArray) (b:Nat):lkF a l=some b↔(a,b)∈l.map fun x=>(x.nm,x.f):=by
 constructor
 ·intro h
  obtain ⟨j,y,_,h2,h3,h4⟩:=lkF_some h
  exact List.mem_map.2 ⟨y,List.mem_of_getElem? h3,by rw [h2,h4]⟩
 ·intro h
  obtain ⟨y,hy,he⟩:=List.mem_map.1 h
  cases he
  exact lkF_mem hn hy
theorem perm_of {l:List DE} {d:List En} {fb:Nat→Nat} (hl:(l.map DE.nm).Nodup) (hd:(names d).Nodup) (h:∀ x,lkF x l=(findP x d).map fb):(l.map fun x=>(x.nm,x.f)).Perm (d.map fun e=>(e.nm,fb e.id)):=by
 have n1:(l.map fun x=>(x.nm,x.f)).Nodup:=by
  unfold List.Nodup at hl ⊢
  rw [List.pairwise_map] at hl ⊢
  exact hl.imp fun h e=>h (congrArg Prod.fst e)
 have n2:(d.map fun e=>(e.nm,fb e.id)).Nodup:=by
  unfold names List.Nodup at hd
  unfold List.Nodup
  rw [List.pairwise_map] at hd ⊢
  exact hd.imp fun h e=>h (congrArg Prod.fst e)
 refine (List.perm_ext_iff_of_nodup n1 n2).2 fun ⟨a,b⟩=>?_
 rw [←lkF_iff hl,h]
 constructor
 ·intro e
  cases hf:findP a d with
  | none=>rw [hf] at e;cases e
  | some i =>
   rw [hf] at e
   simp only [Option.map_some,Option.some.injEq] at e
   subst e
   exact List.mem_map.2 ⟨_,findP_mem hf,rfl⟩
 ·intro hm
  obtain ⟨e,he,hh⟩:=List.mem_map.1 hm
  cases hh
  rw [findP_of_mem hd he];rfl
section
variable {fb fb':Nat→Nat} {fs fs':List Nat} {C C':Nat→Bool→List ByteArray} {q q':DQ} {p p':DP}
theorem Tie.permD (h:Tie fb fs C q p):(q.dir.map fun x=>(x.nm,x.f)).Perm (p.dir.map fun e=>(e.nm,fb e.id)):=perm_of h.ok1.nodup h.wf.dir.nodup h.dir
theorem Tie.permN (h:Tie fb fs C q p):(q.now.map fun x=>(x.nm,x.f)).Perm (p.now.map fun e=>(e.nm,fb e.id)):=perm_of h.ok2.nodup h.wf.now.nodup h.now
theorem Tie.lenN (h:Tie fb fs C q p):q.now.length=p.now.length:=by simpa using h.permN.length_eq
theorem Tie.lenD (h:Tie fb fs C q p):q.dir.length=p.dir.length:=by simpa using h.permD.length_eq
theorem Tie.now8 (h:Tie fb fs C q p):q.now.length≤8:=by rw [h.lenN];exact h.wf.now.len
theorem Tie.f_of (h:Tie fb fs C q p) {x:DE} (hx:x∈q.now):∃ e∈p.now,x.nm=e.nm∧x.f=fb e.id:=by
 have h1:=(h.permN.mem_iff (a:=(x.nm,x.f))).1 (List.mem_map.2 ⟨x,hx,rfl⟩)
 obtain ⟨e,he,hh⟩:=List.mem_map.1 h1
 simp only [Prod.mk.injEq] at hh
 exact ⟨e,he,hh.1.symm,hh.2.symm⟩
theorem Tie.f_ofD (h:Tie fb fs C q p) {x:DE} (hx:x∈q.dir):∃ e∈p.dir,x.nm=e.nm∧x.f=fb e.id:=by
 have h1:=(h.permD.mem_iff (a:=(x.nm,x.f))).1 (List.mem_map.2 ⟨x,hx,rfl⟩)
 obtain ⟨e,he,hh⟩:=List.mem_map.1 h1
 simp only [Prod.mk.injEq] at hh
 exact ⟨e,he,hh.1.symm,hh.2.symm⟩
theorem live_dir {e:En} (he:e∈p.dir):e.id∈p.live:=by
 simp only [DP.live,List.mem_append]
 exact .inl (.inl (List.mem_map.2 ⟨e,he,rfl⟩))
theorem live_wrs {x:PW} (hx:x∈p.wrs):x.id∈p.live:=by
 simp only [DP.live,List.mem_append]
 exact .inr (List.mem_map.2 ⟨x,hx,rfl⟩)
theorem Tie.now_mem (h:Tie fb fs C q p):∀ x∈q.now,x.f∈fs:=fun x hx=>by
 obtain ⟨e,he,_,e2⟩:=h.f_of hx
 rw [e2];exact h.mem _ (p.now_live e he)
theorem Tie.len_t (h:Tie fb fs C q p) {i:Nat} (hi:i∈p.live):(C (fb i) true).length=(p.file i).length:=by rw [h.cn i hi,DP.cont_len]
theorem Tie.now_len (h:Tie fb fs C q p):∀ x∈q.now,(C x.f true).length≤4096:=fun x hx=>by
 obtain ⟨e,he,_,e2⟩:=h.f_of hx
 rw [e2,h.len_t (p.now_live e he)];exact h.wf.file_len _
theorem Tie.used (h:Tie fb fs C q p):lens C q.now=p.used:=by
 have h1:lens C q.now=((q.now.map fun x=>(x.nm,x.f)).map fun y=>(C y.2 true).length).sum:=by simp [lens,List.map_map,Function.comp_def]
 rw [h1,(h.permN.map _).sum_nat]
 unfold DP.used
 rw [List.map_map]
 congr 1
 exact List.map_congr_left fun e he=>h.len_t (p.now_live e he)
theorem Tie.fail (h:Tie fb fs C q p):(failQ q).1=(failP p).1∧Tie fb fs C (failQ q).2 (failP p).2:=by
 have hw:=h.wf.fail
 obtain ⟨a1,a2,a3,a4⟩:=h.arms
 by_cases e:p.armed=false
 ·have f1:failQ q=(0,q):=by unfold failQ;rw [if_pos (a2.trans e)]
  have f2:failP p=(0,p):=by unfold failP;rw [if_pos e]
  rw [f1,f2]
  exact ⟨rfl,h⟩
 ·by_cases h0:0<p.after
  ·have f1:failQ q=(0,{q with after:=q.after-1}):=by unfold failQ;rw [if_neg (by rw [a2];exact e),if_pos (by rw [a3];exact h0)]
   have f2:failP p=(0,{p with after:=p.after-1}):=by unfold failP;rw [if_neg e,if_pos h0]
   rw [f2] at hw
   rw [f1,f2]
   exact ⟨rfl,⟨hw,⟨a1,a2,congrArg (· - 1) a3,a4⟩,h.ok1,h.ok2,h.dir,h.now,h.chs,h.wrs,h.inj,h.mem,h.cs,h.cn⟩⟩
  ·have f1:failQ q=(q.code,{q with armed:=false}):=by unfold failQ;rw [if_neg (by rw [a2];exact e),if_neg (by rw [a3];exact h0)]
   have f2:failP p=(p.code,{p with armed:=false}):=by unfold failP;rw [if_neg e,if_neg h0]
   rw [f2] at hw
   rw [f1,f2]
   exact ⟨a4,⟨hw,⟨a1,rfl,a3,a4⟩,h.ok1,h.ok2,h.dir,h.now,h.chs,h.wrs,h.inj,h.mem,h.cs,h.cn⟩⟩
theorem Tie.opened (h:Tie fb fs C q p) (nm:ByteArray):openedQ q nm=if (failP p).1≠0 then ((failP p).1,none) else match findP nm p.now with
 | some i=>(0,some (fb i))
 | none=>(7,none):=by
 unfold openedQ
 rw [h.fail.1]
 split
 ·rfl
 ·have:=h.now nm
  cases hl:look nm q.now 0 with
  | none =>
   cases hf:findP nm p.now with
   | none=>rfl
   | some i=>unfold lkF at this;rw [hl,hf] at this;cases this
  | some r =>
   cases hf:findP nm p.now with
   | none=>unfold lkF at this;rw [hl,hf] at this;cases this
   | some i =>
    unfold lkF at this;rw [hl,hf] at this
    simp only [Option.map_some,Option.some.injEq] at this
    simp only [this]
theorem mem_chs_live {c:Ch} (hc:c∈p.chs) {i:Nat} (hi:i∈c.ids):i∈p.live:=by
 simp only [DP.live,List.mem_append]
 exact .inl (.inr (List.mem_flatMap.2 ⟨c,hc,hi⟩))
theorem findP_congr {d:List En} {f g:Nat→Nat} (h:∀ e∈d,f e.id=g e.id) (x:ByteArray):(findP x d).map f=(findP x d).map g:=by
 cases hf:findP x d with
 | none=>rfl
 | some i=>simp only [Option.map_some,Option.some.injEq];exact h _ (findP_mem hf)
theorem chq_congr {f g:Nat→Nat} {c:Ch} (h:∀ i∈c.ids,f i=g i):chq f c=chq g c:=by
 cases c with
 | new nm i=>simp only [chq];rw [h i (by simp [Ch.ids])]
 | gone nm=>rfl
 | moved a b=>rfl
theorem Tie.congr (h:Tie fb fs C q p) (hf:∀ i∈p.live,fb i=fb' i):Tie fb' fs C q p:=by
 refine ⟨h.wf,h.arms,h.ok1,h.ok2,fun x=>?_,fun x=>?_,?_,?_,fun i hi j hj e=>?_,fun i hi=>?_,fun i hi=>?_,fun i hi=>?_⟩
 ·rw [h.dir x];exact findP_congr (fun e he=>hf _ (live_dir he)) x
 ·rw [h.now x];exact findP_congr (fun e he=>hf _ (p.now_live e he)) x
 ·rw [h.chs];exact List.map_congr_left fun c hc=>chq_congr fun i hi=>hf i (mem_chs_live hc hi)
 ·rw [h.wrs];exact List.map_congr_left fun x hx=>by unfold wrq;rw [hf _ (live_wrs hx)]
 ·rw [←hf i hi,←hf j hj] at e;exact h.inj i hi j hj e
 ·rw [←hf i hi];exact h.mem i hi
 ·rw [←hf i hi];exact h.cs i hi
 ·rw [←hf i hi];exact h.cn i hi
theorem turnF_map {fb:Nat→Nat} {f:ByteArray→Option Nat} {g:ByteArray→Option Nat} (h:∀ x,f x=(g x).map fb) (c:Ch) (x:ByteArray):turnF f fb c x=(turnF g id c x).map fb:=by
 cases c with
 | new nm i=>simp only [turnF];split <;> simp [h]
 | gone nm=>simp only [turnF];split <;> simp [h]
 | moved a b=>simp only [turnF];split <;> (try split) <;> simp [h]
theorem okQ_of {l:List DE} {d:List En} {fb:Nat→Nat} (h:∀ x,lkF x l=(findP x d).map fb) {c:Ch} (hc:okCh d c):okQ l (chq fb c):=by
 cases c with
 | new nm i=>show lkF nm l=none;rw [h,hc.1];rfl
 | gone nm=>show (lkF nm l).isSome=true;rw [h];simpa [okCh] using hc
 | moved a b=>show (lkF a l).isSome=true;rw [h];simpa using hc.1
theorem chq_one {fb:Nat→Nat} (c:Ch):(chq fb c).f=none∨(chq fb c).to=ByteArray.empty:=by
 cases c with
 | new nm i=>exact .inr rfl
 | gone nm=>exact .inl rfl
 | moved a b=>exact .inl rfl
theorem turn_tie {l:List DE} {ck:Nat} {d:List En} {fb:Nat→Nat} (ho:MapOK l ck) (hd:(names d).Nodup) (h:∀ x,lkF x l=(findP x d).map fb) {c:Ch} (hc:okCh d c) (x:ByteArray):lkF x (turnQ l ck (chq fb c)).1=(findP x (turnP d c)).map fb:=by
 rw [turnQ_lk ho fb (okQ_of h hc) (fun a b e=>by subst e;exact hc.2) x,turnP_find d hd c hc x]
 exact turnF_map h c x
theorem fold_tie {fb:Nat→Nat}:∀ {l:List Ch} {p:List DE × Nat} {d:List En},MapOK p.1 p.2→(names d).Nodup→(∀ x,lkF x p.1=(findP x d).map fb)→okChs d l →
 okF p (l.map (chq fb))∧∀ x,lkF x (foldQ p (l.map (chq fb))).1=(findP x (l.foldl turnP d)).map fb
 | [],p,d,_,_,h,_=>⟨trivial,h⟩
 | c::l,p,d,ho,hd,h,hc=>by
  have h1:=okQ_of h hc.1
  obtain ⟨h2,h3⟩:=fold_tie (l:=l) (p:=turnQ p.1 p.2 (chq fb c)) (d:=turnP d c) (turnQ_ok ho h1) (turnP_nodup d hd c hc.1) (turn_tie ho hd h hc.1) hc.2
  exact ⟨⟨h1,chq_one c,h2⟩,h3⟩
theorem now_snoc (p:DP) (c:Ch) (fsn:List (List ByteArray)):({p with files:=fsn,chs:=p.chs++[c]}:DP).now=turnP p.now c:=by
 show (p.chs++[c]).foldl turnP p.dir=_
 rw [List.foldl_append];rfl
theorem Tie.chg (h:Tie fb fs C q p) {c:Ch} (hc:okCh p.now c) (hi:c.ids=[]) (hw:WF {p with chs:=p.chs++[c]}) :
 Tie fb fs C {q with now:=(turnQ q.now q.nck (chq fb c)).1,nck:=(turnQ q.now q.nck (chq fb c)).2,chs:=q.chs++[chq fb c]} {p with chs:=p.chs++[c]}:=by
 have hl:∀ i,i∈({p with chs:=p.chs++[c]}:DP).live→i∈p.live:=fun i hi'=>by
  simpa [DP.live,List.flatMap_append,hi] using hi'
 refine ⟨hw,h.arms,h.ok1,turnQ_ok h.ok2 (okQ_of h.now hc),h.dir,fun x=>?_,?_,h.wrs,fun i hi j hj=>h.inj i (hl i hi) j (hl j hj),fun i hi=>h.mem i (hl i hi),fun i hi=>h.cs i (hl i hi),fun i hi=>h.cn i (hl i hi)⟩
 ·exact (turn_tie h.ok2 h.wf.now.nodup h.now hc x).trans (by rw [←now_snoc p c p.files])
 ·simp [h.chs]
end
end
section
open Go.RowKit
section
variable {fb fb':Nat→Nat} {fs fs':List Nat} {C C':Nat→Bool→List ByteArray} {q q':DQ} {p p':DP}
theorem createP_cases (p:DP) (nm:ByteArray):((createP p nm).1≠0∧(createP p nm).2=(failP p).2)∨((createP p nm).1=0∧(failP p).1=0∧okCh (failP p).2.now (.new nm (failP p).2.files.length)∧(createP p nm).2={(failP p).2 with files:=(failP p).2.files++[[]],chs:=(failP p).2.chs++[.new nm (failP p).2.files.length]}):=by
 simp only [createP]
 split
 ·rename_i h;exact .inl ⟨h,rfl⟩
 ·rename_i h0
  split
  ·exact .inl ⟨by simp,rfl⟩
  ·split
   ·exact .inl ⟨by simp,rfl⟩
   ·split
    ·exact .inl ⟨by simp,rfl⟩
    ·rename_i h1 h2 h3
     exact .inr ⟨rfl,by simpa using h0,⟨by simpa using h2,by simpa using h1,by omega⟩,rfl⟩
theorem Tie.createC (h:Tie fb fs C q p) (nm:ByteArray):createC q nm=(createP p nm).1:=by
 obtain ⟨h1,h2⟩:=h.fail
 have hn:=h2.now nm
 have hl:=h2.lenN
 rw [failQ_now] at hn hl
 simp only [Go.Proofs.YtekajggjoeimoaaGreatDoor.createC,createP]
 rw [h1]
 by_cases e1:(failP p).1≠0
 ·rw [if_pos e1,if_pos e1]
 ·rw [if_neg e1,if_neg e1]
  by_cases e2:nameOK nm=false
  ·rw [if_pos e2,if_pos e2]
  ·rw [if_neg e2,if_neg e2]
   have e3:(lkF nm q.now).isSome=(findP nm (failP p).2.now).isSome:=by rw [hn];simp
   rw [e3,hl]
   by_cases e4:(findP nm (failP p).2.now).isSome=true
   ·rw [if_pos e4,if_pos e4]
   ·rw [if_neg e4,if_neg e4]
    by_cases e5:8≤(failP p).2.now.length
    ·rw [if_pos e5,if_pos e5]
    ·rw [if_neg e5,if_neg e5]
theorem Tie.new (h:Tie fb fs C q p) {nm:ByteArray} (hc:okCh p.now (.new nm p.files.length)) {f:Nat} (hf:f∉fs) (hw:WF {p with files:=p.files++[[]],chs:=p.chs++[.new nm p.files.length]}) :
 Tie (fun i=>if i=p.files.length then f else fb i) (f::fs) (fun g b=>if g=f then [] else C g b) {q with now:=q.now++[⟨nm,f,q.nck⟩],nck:=q.nck+1,chs:=q.chs++[⟨nm,ByteArray.empty,some f⟩]} {p with files:=p.files++[[]],chs:=p.chs++[.new nm p.files.length]}:=by
 have hlt:∀ i∈p.live,i<p.files.length:=h.wf.ids
 have h':=h.congr (fb':=fun i=>if i=p.files.length then f else fb i) (fun i hi=>by have:=hlt i hi;rw [if_neg (by omega)])
 have hlive:∀ i,i∈({p with files:=p.files++[[]],chs:=p.chs++[.new nm p.files.length]}:DP).live→i∈p.live∨i=p.files.length:=fun i hi=>by
  simp only [DP.live,List.flatMap_append,List.mem_append,List.flatMap_cons,List.flatMap_nil,List.append_nil,Ch.ids,List.mem_singleton] at hi ⊢
  rcases hi with (hi | hi | hi) | hi
  ·exact .inl (.inl (.inl hi))
  ·exact .inl (.inl (.inr hi))
  ·exact .inr hi
  ·exact .inl (.inr hi)
 have hcq:chq (fun i=>if i=p.files.length then f else fb i) (.new nm p.files.length)=⟨nm,ByteArray.empty,some f⟩:=by simp [chq]
 have hne:∀ i∈p.live,(if i=p.files.length then f else fb i)≠f:=fun i hi e=>hf (by rw [←e];exact h'.mem i hi)
 have hfile:∀ i,i<p.files.length→({p with files:=p.files++[[]],chs:=p.chs++[.new nm p.files.length]}:DP).file i=p.file i:=fun i hi=>by
  show (p.files++[[]]).getD i []=p.files.getD i []
  rw [List.getD_eq_getElem?_getD,List.getD_eq_getElem?_getD,List.getElem?_append_left hi]
 have hfile0:({p with files:=p.files++[[]],chs:=p.chs++[.new nm p.files.length]}:DP).file p.files.length=[]:=by
  show (p.files++[[]]).getD p.files.length []=[]
  simp [List.getD_eq_getElem?_getD]
 have hq:=turn_tie h'.ok2 h'.wf.now.nodup h'.now hc
 have ht:turnQ q.now q.nck (chq (fun i=>if i=p.files.length then f else fb i) (.new nm p.files.length))=(q.now++[⟨nm,f,q.nck⟩],q.nck+1):=by rw [hcq];rfl
 have hok:=turnQ_ok h'.ok2 (okQ_of h'.now hc)
 rw [ht] at hok
 refine ⟨hw,h.arms,h.ok1,hok,h'.dir,fun x=>?_,?_,h'.wrs,fun i hi j hj e=>?_,fun i hi=>?_,fun i hi=>?_,fun i hi=>?_⟩
 ·have:=hq x
  rw [ht] at this
  exact this.trans (by rw [←now_snoc p _ (p.files++[[]])])
 ·rw [List.map_append,←h'.chs]
  simp only [List.map_cons,List.map_nil,hcq]
 ·rcases hlive i hi with h1 | h1 <;> rcases hlive j hj with h2 | h2
  ·exact h'.inj i h1 j h2 e
  ·subst h2
   exact absurd (e.trans (by simp)) (hne i h1)
  ·subst h1
   exact absurd (e.symm.trans (by simp)) (hne j h2)
  ·rw [h1,h2]
 ·rcases hlive i hi with h1 | h1
  ·exact List.mem_cons_of_mem _ (h'.mem i h1)
  ·subst h1;simp
 ·rcases hlive i hi with h1 | h1
  ·show (if (if i=p.files.length then f else fb i)=f then [] else C (if i=p.files.length then f else fb i) false)=_
   rw [if_neg (hne i h1),hfile i (hlt i h1)];exact h'.cs i h1
  ·subst h1
   rw [hfile0];simp
 ·rcases hlive i hi with h1 | h1
  ·show (if (if i=p.files.length then f else fb i)=f then [] else C (if i=p.files.length then f else fb i) true)=_
   rw [if_neg (hne i h1)]
   refine (h'.cn i h1).trans ?_
   unfold DP.cont
   rw [hfile i (hlt i h1)]
  ·subst h1
   have:(({p with files:=p.files++[[]],chs:=p.chs++[.new nm p.files.length]}:DP).cont p.files.length)=[]:=List.eq_nil_of_length_eq_zero (by rw [DP.cont_len,hfile0];rfl)
   rw [this];simp
theorem Tie.grow (h:Tie fb fs C q p) {id:Nat} (hid:id∈p.live) (m:List ByteArray) (hw:WF {p with files:=p.files.set id (p.file id++m)}) :
 Tie fb fs (upd (upd C (fb id) false (C (fb id) false++m)) (fb id) true (C (fb id) true++m)) q {p with files:=p.files.set id (p.file id++m)}:=by
 have hlt:=h.wf.ids id hid
 refine ⟨hw,h.arms,h.ok1,h.ok2,h.dir,h.now,h.chs,h.wrs,h.inj,h.mem,fun i hi=>?_,fun i hi=>?_⟩
 ·show _=(p.files.set id (p.file id++m)).getD i []
  rw [file_set p id _ i hlt,upd_ne _ _ (by simp)]
  by_cases e:i=id
  ·subst e;rw [if_pos rfl,upd_at,h.cs i hid]
  ·rw [if_neg e,upd_ne _ _ (fun hh=>e (h.inj i hi id hid hh.1))];exact h.cs i hi
 ·rw [cont_grow p h.wf id i m hlt]
  by_cases e:i=id
  ·subst e;rw [if_pos rfl,upd_at,h.cn i hid]
  ·rw [if_neg e,upd_ne _ _ (fun hh=>e (h.inj i hi id hid hh.1)),upd_ne _ _ (by simp)];exact h.cn i hi
theorem Tie.write (h:Tie fb fs C q p) {x:PW} (hid:x.id∈p.live) (hw:WF {p with wrs:=p.wrs++[x]}) :
 Tie fb fs (upd C (fb x.id) true ((C (fb x.id) true).set x.n x.s)) {q with wrs:=q.wrs++[⟨fb x.id,x.n,x.s⟩]} {p with wrs:=p.wrs++[x]}:=by
 have hl:∀ i,i∈({p with wrs:=p.wrs++[x]}:DP).live→i∈p.live:=fun i hi=>by
  simp only [DP.live,List.map_append,List.mem_append,List.map_cons,List.map_nil,List.mem_singleton] at hi
  rcases hi with hi | hi | hi
  ·simp only [DP.live,List.mem_append];exact .inl hi
  ·simp only [DP.live,List.mem_append];exact .inr hi
  ·rw [hi];exact hid
 refine ⟨hw,h.arms,h.ok1,h.ok2,h.dir,h.now,h.chs,?_,fun i hi j hj=>h.inj i (hl i hi) j (hl j hj),fun i hi=>h.mem i (hl i hi),fun i hi=>?_,fun i hi=>?_⟩
 ·simp [h.wrs,wrq]
 ·rw [upd_ne _ _ (by simp)];exact h.cs i (hl i hi)
 ·rw [cont_write]
  by_cases e:i=x.id
  ·subst e;rw [upd_at,h.cn _ hid];unfold putW;rw [if_pos rfl]
  ·rw [upd_ne _ _ (fun hh=>e (h.inj i (hl i hi) _ hid hh.1)),putW_ne (fun hh=>e hh.symm)];exact h.cn i (hl i hi)
theorem others_map (h:Tie fb fs C q p) {id:Nat} (hid:id∈p.live):others (fb id) q.wrs=(p.wrs.filter fun x=>decide (x.id≠id)).map (wrq fb):=by
 rw [h.wrs]
 unfold others
 rw [List.filter_map]
 congr 1
 refine List.filter_congr fun x hx=>?_
 simp only [Function.comp,wrq]
 by_cases e:x.id=id
 ·simp [e]
 ·have e2:¬ fb x.id=fb id:=fun hh=>e (h.inj _ (live_wrs hx) _ hid hh)
  simp [e,e2]
theorem Tie.sync (h:Tie fb fs C q p) {id:Nat} (hid:id∈p.live) (hw:WF {p with files:=p.files.set id (p.cont id),wrs:=p.wrs.filter fun x=>decide (x.id≠id)}) :
 Tie fb fs (upd C (fb id) false (C (fb id) true)) {q with wrs:=others (fb id) q.wrs} {p with files:=p.files.set id (p.cont id),wrs:=p.wrs.filter fun x=>decide (x.id≠id)}:=by
 have hlt:=h.wf.ids id hid
 have hl:∀ i,i∈({p with files:=p.files.set id (p.cont id),wrs:=p.wrs.filter fun x=>decide (x.id≠id)}:DP).live→i∈p.live:=fun i hi=>by
  simp only [DP.live,List.mem_append] at hi ⊢
  rcases hi with hi | hi
  ·exact .inl hi
  ·obtain ⟨y,hy,rfl⟩:=List.mem_map.1 hi
   exact .inr (List.mem_map.2 ⟨y,(List.mem_filter.1 hy).1,rfl⟩)
 refine ⟨hw,h.arms,h.ok1,h.ok2,h.dir,h.now,h.chs,others_map h hid,fun i hi j hj=>h.inj i (hl i hi) j (hl j hj),fun i hi=>h.mem i (hl i hi),fun i hi=>?_,fun i hi=>?_⟩
 ·show _=(p.files.set id (p.cont id)).getD i []
  rw [file_set p id _ i hlt]
  by_cases e:i=id
  ·subst e;rw [if_pos rfl,upd_at,h.cn i hid]
  ·rw [if_neg e,upd_ne _ _ (fun hh=>e (h.inj i (hl i hi) id hid hh.1))];exact h.cs i (hl i hi)
 ·rw [cont_sync p id i hlt,upd_ne _ _ (by simp)];exact h.cn i (hl i hi)
theorem Tie.syncdir (h:Tie fb fs C q p) (hw:WF {p with dir:=p.now,chs:=[]}) :
 Tie fb fs C {q with dir:=q.now,dck:=q.nck,now:=q.now,nck:=q.nck,chs:=[]} {p with dir:=p.now,chs:=[]}:=by
 have hl:∀ i,i∈({p with dir:=p.now,chs:=[]}:DP).live→i∈p.live:=fun i hi=>by
  simp only [DP.live,List.mem_append,List.flatMap_nil,List.not_mem_nil,or_false] at hi
  rcases hi with hi | hi
  ·obtain ⟨e,he,rfl⟩:=List.mem_map.1 hi;exact p.now_live e he
  ·simp only [DP.live,List.mem_append];exact .inr hi
 exact ⟨hw,h.arms,h.ok2,h.ok2,h.now,h.now,rfl,h.wrs,fun i hi j hj=>h.inj i (hl i hi) j (hl j hj),fun i hi=>h.mem i (hl i hi),fun i hi=>h.cs i (hl i hi),fun i hi=>h.cn i (hl i hi)⟩
theorem Tie.arm (h:Tie fb fs C q p) (a c:Int):Tie fb fs C {q with armed:=armedP a c,after:=a,code:=c} (armP p a c) :=
 ⟨h.wf.arm a c,⟨h.arms.1,rfl,rfl,rfl⟩,h.ok1,h.ok2,h.dir,h.now,h.chs,h.wrs,h.inj,h.mem,h.cs,h.cn⟩
theorem crash_tie {fb:Nat→Nat} (ks:List Int) (L:List Nat) (hinj:∀ i∈L,∀ j∈L,fb i=fb j→i=j):∀ (l:List PW) (k:Nat) (C:Nat→Bool→List ByteArray) (fs:List (List ByteArray)),(∀ x∈l,x.id∈L)→(∀ i∈L,C (fb i) false=fs.getD i []) →
 ∀ i∈L,crashC ks k (l.map (wrq fb)) C (fb i) false=(crashW ks k l fs).getD i []
 | [],k,C,fs,_,h=>h
 | x::l,k,C,fs,hl,h=>by
  refine crash_tie ks L hinj l (k+1) _ _ (fun y hy=>hl y (List.mem_cons_of_mem _ hy)) (fun i hi=>?_)
  unfold stepC
  by_cases hk:(k:Int)∈ks
  ·rw [if_pos hk,if_pos hk,getD_keepW]
   by_cases e:x.id=i
   ·subst e
    show upd C (fb x.id) false _ (fb x.id) false=_
    rw [upd_at];unfold putW;rw [if_pos rfl,←h _ hi];rfl
   ·rw [putW_ne e]
    show upd C (fb x.id) false _ (fb i) false=_
    rw [upd_ne _ _ (fun hh=>e (hinj _ (hl x List.mem_cons_self) _ hi hh.1.symm))]
    exact h i hi
  ·rw [if_neg hk,if_neg hk];exact h i hi
theorem Tie.crash (h:Tie fb fs C q p) (changes:Int) (ks:List Int) {n:Nat} (hn:n=min changes.toNat q.chs.length) :
 okF (q.dir,q.dck) (q.chs.take n)∧(∀ x∈(foldQ (q.dir,q.dck) (q.chs.take n)).1,x.f∈fs) ∧
 Tie fb fs (nowC (crashC ks 0 q.wrs C) (foldQ (q.dir,q.dck) (q.chs.take n)).1) {q with dir:=(foldQ (q.dir,q.dck) (q.chs.take n)).1,dck:=(foldQ (q.dir,q.dck) (q.chs.take n)).2,now:=(foldQ (q.dir,q.dck) (q.chs.take n)).1,nck:=(foldQ (q.dir,q.dck) (q.chs.take n)).2,chs:=[],wrs:=[],armed:=false} (crashP p changes ks):=by
 have e1:q.chs.take n=(p.chs.take changes.toNat).map (chq fb):=by
  rw [h.chs,←List.map_take]
  congr 1
  rw [hn,h.chs,List.length_map]
  by_cases hh:changes.toNat≤p.chs.length
  ·rw [Nat.min_eq_left hh]
  ·rw [Nat.min_eq_right (by omega),List.take_of_length_le (Nat.le_refl _),List.take_of_length_le (by omega)]
 have hoc:=okChs_take changes.toNat h.wf.chs
 obtain ⟨h1,h2⟩:=fold_tie (fb:=fb) (p:=(q.dir,q.dck)) h.ok1 h.wf.dir.nodup h.dir hoc
 have hw:=h.wf.crash changes ks
 have hd:=h.wf.dir.fold hoc
 rw [e1]
 have hok:=foldQ_ok (p:=(q.dir,q.dck)) h.ok1 h1
 have hlv:∀ e∈(p.chs.take changes.toNat).foldl turnP p.dir,e.id∈p.live:=fun e he=>by
  simp only [DP.live,List.mem_append]
  rcases List.mem_append.1 (fold_ids e he) with h3 | h3
  ·exact .inl (.inl h3)
  ·obtain ⟨c,hc,hce⟩:=List.mem_flatMap.1 h3
   exact .inl (.inr (List.mem_flatMap.2 ⟨c,List.mem_of_mem_take hc,hce⟩))
 have hperm:=perm_of hok.nodup hd.nodup h2
 have hl:∀ i,i∈(crashP p changes ks).live→∃ e∈(p.chs.take changes.toNat).foldl turnP p.dir,e.id=i:=fun i hi=>by
  simpa [DP.live,crashP] using hi
 have hl':∀ i,i∈(crashP p changes ks).live→i∈p.live:=fun i hi=>by
  obtain ⟨e,he,rfl⟩:=hl i hi;exact hlv e he
 have hcr:=crash_tie ks p.live h.inj p.wrs 0 C p.files (fun x hx=>live_wrs hx) (fun i hi=>h.cs i hi)
 refine ⟨h1,fun x hx=>?_,hw,⟨h.arms.1,rfl,h.arms.2.2.1,h.arms.2.2.2⟩,hok,hok,h2,h2,rfl,rfl,fun i hi j hj=>h.inj i (hl' i hi) j (hl' j hj),fun i hi=>h.mem i (hl' i hi),fun i hi=>?_,fun i hi=>?_⟩
 ·obtain ⟨e,he,hh⟩:=List.mem_map.1 ((hperm.mem_iff (a:=(x.nm,x.f))).1 (List.mem_map.2 ⟨x,hx,rfl⟩))
  simp only [Prod.mk.injEq] at hh
  rw [←hh.2];exact h.mem _ (hlv e he)
 ·unfold nowC
  rw [if_neg (by simp),h.wrs]
  exact hcr i (hl' i hi)
 ·obtain ⟨e,he,rfl⟩:=hl i hi
  obtain ⟨x,hx,hh⟩:=List.mem_map.1 ((hperm.mem_iff (a:=(e.nm,fb e.id))).2 (List.mem_map.2 ⟨e,he,rfl⟩))
  simp only [Prod.mk.injEq] at hh
  unfold nowC
  rw [if_pos ⟨rfl,List.mem_map.2 ⟨x,hx,hh.2⟩⟩,h.wrs]
  exact hcr e.id (hl' _ hi)
theorem Tie.nil {room:Int} (h:0≤room∧room≤4096):Tie (fun i=>i) [] (fun _ _=>[]) ⟨room,[],0,[],0,[],[],false,0,0⟩ (newP room) :=
 ⟨WF.new h,⟨rfl,rfl,rfl,rfl⟩,⟨by simp,by simp,by simp⟩,⟨by simp,by simp,by simp⟩,fun _=>rfl,fun _=>rfl,rfl,rfl,fun i hi=>by simp [newP,DP.live] at hi,fun i hi=>by simp [newP,DP.live] at hi,fun i hi=>by simp [newP,DP.live] at hi,fun i hi=>by simp [newP,DP.live] at hi⟩
end
end
section
open Go.RowKit
def opRemove:ByteArray:=⟨#[114,101,109,111,118,101]⟩
def opRename:ByteArray:=⟨#[114,101,110,97,109,101]⟩
def opLen:ByteArray:=⟨#[108,101,110]⟩
section
variable {X X':Nat→Prop} {w w1 w2 w3 w4:World} {db M1 M2:Nat} {v3 v4:Value} {q q':DQ} {fs:List Nat} {V:Nat→Bool→Value} {C:Nat→Bool→List ByteArray}
theorem arm_left (hF:FilesV X w fs V C) (h:DiskV X w db M1 M2 v3 v4 q) (b:Bool) (after code:Int):Left X w db M1 fs C {q with armed:=b,after:=after,code:=code} (((w.setCell ⟨db,5,none⟩ (.bool b)).setCell ⟨db,6,none⟩ (.int .i64 after)).setCell ⟨db,7,none⟩ (.int .i64 code)):=by
 have h1:=h.set5 b
 have h2:=h1.set6 after
 have h3:=h2.set7 code
 have n1:=h.near 5 (.bool b)
 have n2:=h1.near 6 (.int .i64 after)
 have n3:=h2.near 7 (.int .i64 code)
 refine ⟨⟨_,_,_,h3.keep (fun _=>more_left) Same.refl (fun _ _ _ _ h=>h)⟩,⟨V,hF.keep (fun _=>more_left) ((n1.files.trans n2.files).trans n3.files)⟩,((n1.fr' h.inX).trans (n2.fr' h.inX)).trans (n3.fr' h.inX)⟩
set_option maxHeartbeats 1000000 in
set_option maxRecDepth 100000 in
theorem Arm_go (hF:FilesV X w fs V C) (h:DiskV X w db M1 M2 v3 v4 q) (after code:Int) :
 Calls Tryz.prog 34 #[.pointer (some ⟨db,0,none⟩),.int .i64 after,.int .i64 code] w fun e w'=>e=.returned (.tuple #[])∧Left X w db M1 fs C {q with armed:=isArmed after code,after:=after,code:=code} w':=by
 have hb:=h.blk
 have r5:w.cell? ⟨db,5,none⟩=some (.bool q.armed):=hb.cell 5
 have r6:w.cell? ⟨db,6,none⟩=some (.int .i64 q.after):=hb.cell 6
 have r7:w.cell? ⟨db,7,none⟩=some (.int .i64 q.code):=hb.cell 7
 have f5:=hb.frozen 5
 have f6:=hb.frozen 6
 have f7:=hb.frozen 7
 have HR:=arm_left hF h (isArmed after code) after code
 unfold isArmed at HR ⊢
 cases d0:decide (0≤after) with
 | false =>
  rw [d0] at HR
  have HH:=Lib.hid HR
  clear HR
  go_enter Tryz.func34,Tryz.ntmps34
  go_wp2
  go_end0
  exact ⟨rfl,HH.out⟩
 | true =>
  cases d1:(code==41) with
  | true =>
   rw [d0,d1] at HR
   have HH:=Lib.hid HR
   clear HR
   go_enter Tryz.func34,Tryz.ntmps34
   go_wp2
   go_end0
   exact ⟨rfl,HH.out⟩
  | false =>
   cases d2:(code==42) with
   | true =>
    rw [d0,d1,d2] at HR
    have HH:=Lib.hid HR
    clear HR
    go_enter Tryz.func34,Tryz.ntmps34
    go_wp2
    go_end0
    exact ⟨rfl,HH.out⟩
   | false =>
    rw [d0,d1,d2] at HR
    have HH:=Lib.hid HR
    clear HR
    go_enter Tryz.func34,Tryz.ntmps34
    go_wp2
    go_end0
    exact ⟨rfl,HH.out⟩
set_option maxHeartbeats 1000000 in
set_option maxRecDepth 100000 in
theorem Remove_ref (hF:FilesV X w fs V C) (h:DiskV X w db M1 M2 v3 v4 q) (ha:q.after≤9223372036854775807) (nm:ByteArray) (hk:(openedQ q nm).1≠0) :
 Calls Tryz.prog 28 #[.pointer (some ⟨db,0,none⟩),.string nm] w fun e w'=>Ends w opRemove nm (openedQ q nm).1 e w'∧Left X w db M1 fs C (failQ q).2 w':=by
 obtain ⟨w1,hO,hD,hN⟩:=opened_any h ha nm
 have hc':((openedQ q nm).1 != 0)=true:=by simpa using hk
 have hc2:((openedQ q nm).1==0)=false:=by simpa using hk
 go_enter Tryz.func28,Tryz.ntmps28
 go_wp2_with (first
  | (go_at_call 73;refine hO.mono ?_;rintro e w9 ⟨rfl,h9⟩;obtain rfl:w1=w9:=h9.symm)
  | (go_at_call 29;refine (fault_any _ _ _ _).mono ?_;rintro e w7 ⟨⟨v,rfl,hv⟩,hb7⟩))
 go_ret
 exact ⟨⟨v,rfl,hv.mono (by rw [hN.size];exact Nat.le_refl _)⟩,left_near hD hF hN hb7⟩
theorem left_turn (hF:FilesV X w fs V C) (hN:Near X db w w1) (hD:DiskV X w1 db M1 M2 v3 v4 q) {v3':Value} (hD3:DiskV (More X w1) w3 db M1 M2 v3' v4 q') (hS3:Same FT X w1 w3) (hf3:Fr X w1 w3) (hb7:Below w3.heap.size w3 w4):Left X w db M1 fs C q' w4:=by
 have hmm:∀ k,More X w1 k→More X w k:=fun k hk=>hk.imp id (fun h=>by have:=hN.size;omega)
 exact ⟨⟨_,_,_,(hD3.below hb7).keep hmm Same.refl (fun _ _ _ _ h=>h)⟩,⟨_,hF.keep (fun _=>more_left) ((hN.files.trans hS3).trans (Same.of_below hb7))⟩,((hN.fr' hD.inX).trans hf3).trans (Fr.of_below hb7)⟩
set_option maxHeartbeats 2000000 in
set_option maxRecDepth 100000 in
theorem Remove_go (hF:FilesV X w fs V C) (h:DiskV X w db M1 M2 v3 v4 q) (ha:q.after≤9223372036854775807) {nm:ByteArray} {f:Nat} (ho:openedQ q nm=(0,some f)) (hl:(lkF nm q.now).isSome) (hm:q.chs.length≤1000) :
 Calls Tryz.prog 28 #[.pointer (some ⟨db,0,none⟩),.string nm] w fun e w'=>Ends w opRemove nm 0 e w' ∧
  Left X w db M1 fs C {(failQ q).2 with now:=(turnQ q.now q.nck ⟨nm,ByteArray.empty,none⟩).1,nck:=(turnQ q.now q.nck ⟨nm,ByteArray.empty,none⟩).2,chs:=q.chs++[⟨nm,ByteArray.empty,none⟩]} w':=by
 obtain ⟨w1,hO,hD,hN⟩:=opened_any h ha nm
 rw [ho] at hO
 have hT:=turn_any hD ⟨nm,ByteArray.empty,none⟩ (by show (lkF nm (failQ q).2.now).isSome=true;rw [failQ_now];exact hl) (.inl rfl) (by rw [failQ_chs];exact hm)
 rw [failQ_now,failQ_nck,failQ_chs] at hT
 change Calls Tryz.prog 72 #[.pointer (some ⟨db,0,none⟩),.agg #[.string nm,.string ⟨#[]⟩,.pointer none]] w1 _ at hT
 have HT:=Lib.hid hT
 clear hT
 go_enter Tryz.func28,Tryz.ntmps28
 go_wp2_with (first
  | (go_at_call 73;refine hO.mono ?_;rintro e w9 ⟨rfl,h9⟩;obtain rfl:w1=w9:=h9.symm)
  | (go_at_call 72;refine HT.out.mono ?_;rintro e w3 ⟨rfl,⟨v3',hD3⟩,hS3,hf3⟩)
  | (go_at_call 29;refine (fault_any _ _ _ _).mono ?_;rintro e w7 ⟨⟨v,rfl,hv⟩,hb7⟩))
 go_ret
 exact ⟨⟨v,rfl,hv.zero⟩,left_turn hF hN hD hD3 hS3 hf3 hb7⟩
set_option maxHeartbeats 1000000 in
set_option maxRecDepth 100000 in
theorem Rename_ref (hF:FilesV X w fs V C) (h:DiskV X w db M1 M2 v3 v4 q) (ha:q.after≤9223372036854775807) (nm to:ByteArray) (hk:(openedQ q nm).1≠0) :
 Calls Tryz.prog 32 #[.pointer (some ⟨db,0,none⟩),.string nm,.string to] w fun e w'=>Ends w opRename nm (openedQ q nm).1 e w'∧Left X w db M1 fs C (failQ q).2 w':=by
 obtain ⟨w1,hO,hD,hN⟩:=opened_any h ha nm
 have hc':((openedQ q nm).1 != 0)=true:=by simpa using hk
 have hc2:((openedQ q nm).1==0)=false:=by simpa using hk
 go_enter Tryz.func32,Tryz.ntmps32
 go_wp2_with (first
  | (go_at_call 73;refine hO.mono ?_;rintro e w9 ⟨rfl,h9⟩;obtain rfl:w1=w9:=h9.symm)
  | (go_at_call 29;refine (fault_any _ _ _ _).mono ?_;rintro e w7 ⟨⟨v,rfl,hv⟩,hb7⟩))
 go_ret
 exact ⟨⟨v,rfl,hv.mono (by rw [hN.size];exact Nat.le_refl _)⟩,left_near hD hF hN hb7⟩
set_option maxHeartbeats 1000000 in
set_option maxRecDepth 100000 in
theorem Rename_arg (hF:FilesV X w fs V C) (h:DiskV X w db M1 M2 v3 v4 q) (ha:q.after≤9223372036854775807) {nm:ByteArray} {f:Nat} (ho:openedQ q nm=(0,some f)) (to:ByteArray) (hs:to.size≤1000000) (hn:nameOK to=false) :
 Calls Tryz.prog 32 #[.pointer (some ⟨db,0,none⟩),.string nm,.string to] w fun e w'=>Ends w opRename nm 2 e w'∧Left X w db M1 fs C (failQ q).2 w':=by
 obtain ⟨w1,hO,hD,hN⟩:=opened_any h ha nm
 rw [ho] at hO
 have hI:=isName_any to hs w1
 rw [hn] at hI
 go_enter Tryz.func32,Tryz.ntmps32
 go_wp2_with (first
  | (go_at_call 73;refine hO.mono ?_;rintro e w9 ⟨rfl,h9⟩;obtain rfl:w1=w9:=h9.symm)
  | (go_at_call 71;refine hI.mono ?_;rintro e w8 ⟨rfl,rfl⟩)
  | (go_at_call 29;refine (fault_any _ _ _ _).mono ?_;rintro e w7 ⟨⟨v,rfl,hv⟩,hb7⟩))
 go_ret
 exact ⟨⟨v,rfl,hv.mono (by rw [hN.size];exact Nat.le_refl _)⟩,left_near hD hF hN hb7⟩
set_option maxHeartbeats 2000000 in
set_option maxRecDepth 100000 in
theorem Rename_go (hF:FilesV X w fs V C) (h:DiskV X w db M1 M2 v3 v4 q) (ha:q.after≤9223372036854775807) {nm:ByteArray} {f:Nat} (ho:openedQ q nm=(0,some f)) (hl:(lkF nm q.now).isSome) (hm:q.chs.length≤1000) (to:ByteArray) (hs:to.size≤1000000) (hn:nameOK to=true) :
 Calls Tryz.prog 32 #[.pointer (some ⟨db,0,none⟩),.string nm,.string to] w fun e w'=>Ends w opRename nm 0 e w' ∧
  Left X w db M1 fs C {(failQ q).2 with now:=(turnQ q.now q.nck ⟨nm,to,none⟩).1,nck:=(turnQ q.now q.nck ⟨nm,to,none⟩).2,chs:=q.chs++[⟨nm,to,none⟩]} w':=by
 obtain ⟨w1,hO,hD,hN⟩:=opened_any h ha nm
 rw [ho] at hO
 have hI:=isName_any to hs w1
 rw [hn] at hI
 have hT:=turn_any hD ⟨nm,to,none⟩ (by show (lkF nm (failQ q).2.now).isSome=true;rw [failQ_now];exact hl) (.inl rfl) (by rw [failQ_chs];exact hm)
 rw [failQ_now,failQ_nck,failQ_chs] at hT
 change Calls Tryz.prog 72 #[.pointer (some ⟨db,0,none⟩),.agg #[.string nm,.string to,.pointer none]] w1 _ at hT
 have HT:=Lib.hid hT
 clear hT
 go_enter Tryz.func32,Tryz.ntmps32
 go_wp2_with (first
  | (go_at_call 73;refine hO.mono ?_;rintro e w9 ⟨rfl,h9⟩;obtain rfl:w1=w9:=h9.symm)
  | (go_at_call 71;refine hI.mono ?_;rintro e w8 ⟨rfl,rfl⟩)
  | (go_at_call 72;refine HT.out.mono ?_;rintro e w3 ⟨rfl,⟨v3',hD3⟩,hS3,hf3⟩)
  | (go_at_call 29;refine (fault_any _ _ _ _).mono ?_;rintro e w7 ⟨⟨v,rfl,hv⟩,hb7⟩))
 go_ret
 exact ⟨⟨v,rfl,hv.zero⟩,left_turn hF hN hD hD3 hS3 hf3 hb7⟩
set_option maxHeartbeats 1000000 in
set_option maxRecDepth 100000 in
theorem Len_some (hF:FilesV X w fs V C) (h:DiskV X w db M1 M2 v3 v4 q) {nm:ByteArray} {f:Nat} (hl:lkF nm q.now=some f) (hff:f∈fs) :
 Calls Tryz.prog 49 #[.pointer (some ⟨db,0,none⟩),.string nm] w fun e w'=>e=.returned (.tuple #[.int .i64 (C f true).length,.nilIface])∧w=w':=by
 obtain ⟨j,y,h1,h2,h3,h4⟩:=lkF_some hl
 have hO:=file_some h.blk h.m2 h1
 rw [h2] at hO
 obtain ⟨An,cn,hAn⟩:=(hF.row f hff true).form
 have hfb:=hF.blk f hff
 rw [hAn] at hfb
 have f1:w.cell? ⟨f,1,none⟩=some (.slice An (C f true).length cn):=hfb.cell 1
 go_enter Tryz.func49,Tryz.ntmps49
 go_wp2_with (first
  | (go_at_call 90;refine hO.mono ?_;rintro e w9 ⟨rfl,rfl⟩))
 go_ret2
 exact ⟨rfl,rfl⟩
set_option maxHeartbeats 1000000 in
set_option maxRecDepth 100000 in
theorem Pending_any (h:DiskV X w db M1 M2 v3 v4 q) :
 Calls Tryz.prog 47 #[.pointer (some ⟨db,0,none⟩)] w fun e w'=>e=.returned (.tuple #[.int .i64 q.wrs.length,.int .i64 q.chs.length])∧Below w.heap.size w w':=by
 obtain ⟨A3,c3,rfl⟩:=h.chs.form
 obtain ⟨A4,c4,rfl⟩:=h.wrs.form
 have e3:w.cell? ⟨db,3,none⟩=some (.slice A3 q.chs.length c3):=h.blk.cell 3
 have e4:w.cell? ⟨db,4,none⟩=some (.slice A4 q.wrs.length c4):=h.blk.cell 4
 go_enter Tryz.func47,Tryz.ntmps47
 go_wp2
 go_quiet (fail)
 go_wp2
 go_ret2
 exact ⟨rfl,⟨rfl,rfl,rfl,Nat.le_refl _,fun _ _=>rfl⟩⟩
end
end
section
open Go.RowKit
def PD (X:Nat→Prop) (w:World) (db:Nat) (p:DP):Prop:=∃ M1 M2 v3 v4 q fs V C fb,DiskV X w db M1 M2 v3 v4 q∧FilesV X w fs V C∧Tie fb fs C q p
def PL (X:Nat→Prop) (w:World) (db:Nat) (p:DP) (w':World):Prop:=PD (More X w) w' db p∧Fr X w w'
structure PA (X:Nat→Prop) (w:World) (db:Nat) (p:DP):Prop where
 pd:PD X w db p
 lt:∀ k,X k→k<w.heap.size
 after:p.after≤9223372036854775807
 chs:p.chs.length≤1000
 wrs:p.wrs.length≤1000
section
variable {X X':Nat→Prop} {w w1 w2 w3 w4:World} {db M1 M2:Nat} {v3 v4:Value} {q q':DQ} {fs:List Nat} {V:Nat→Bool→Value} {C:Nat→Bool→List ByteArray} {fb:Nat→Nat} {p p':DP}
theorem pl_of (h:Left X w db M1 fs C q w1) (ht:Tie fb fs C q p):PL X w db p w1:=by
 obtain ⟨⟨M2,v3,v4,hD⟩,⟨V,hF⟩,hf⟩:=h
 exact ⟨⟨_,_,_,_,_,_,_,_,_,hD,hF,ht⟩,hf⟩
theorem Tie.sizes (h:Tie fb fs C q p):q.chs.length=p.chs.length∧q.wrs.length=p.wrs.length∧q.after=p.after:=⟨by rw [h.chs];simp,by rw [h.wrs];simp,h.arms.2.2.1⟩
theorem pd_create (h:PA X w db p) (nm:ByteArray) (hs:nm.size≤1000000) :
 Calls Tryz.prog 22 #[.pointer (some ⟨db,0,none⟩),.string nm] w fun e w'=>Ends w opCreate nm (createP p nm).1 e w'∧PL X w db (createP p nm).2 w':=by
 obtain ⟨⟨M1,M2,v3,v4,q,fs,V,C,fb,hD,hF,ht⟩,hb,ha,hc,hw⟩:=h
 obtain ⟨s1,s2,s3⟩:=ht.sizes
 have e1:=ht.createC nm
 rcases createP_cases p nm with ⟨h1,h2⟩ | ⟨h1,h2,h3,h4⟩
 ·rw [h2,←e1]
  refine (Create_no hF hD (by omega) nm hs (by rw [e1];exact h1)).mono ?_
  rintro e w' ⟨he,hl⟩
  exact ⟨he,pl_of hl ht.fail.2⟩
 ·have hwf:=ht.wf.create nm
  rw [h4] at hwf
  rw [h4,h1]
  refine (Create_go hF hD (by omega) nm hs (by rw [e1];exact h1) (by omega)).mono ?_
  rintro e w' ⟨he,f,hf,hl⟩
  have hn:f∉fs:=fun hm=>by have:=hb _ (hF.inX f hm);omega
  have:=ht.fail.2.new h3 hn hwf
  rw [failQ_now,failQ_nck,failQ_chs] at this
  exact ⟨he,pl_of hl this⟩
theorem Tie.look (h:Tie fb fs C q p) {nm:ByteArray} {i:Nat} (hf:findP nm (failP p).2.now=some i):(lkF nm q.now).isSome∧lkF nm q.now=some (fb i):=by
 rw [failP_now] at hf
 rw [h.now,hf];exact ⟨rfl,rfl⟩
theorem pd_remove (h:PA X w db p) (nm:ByteArray) :
 Calls Tryz.prog 28 #[.pointer (some ⟨db,0,none⟩),.string nm] w fun e w'=>Ends w opRemove nm (removeP p nm).1 e w'∧PL X w db (removeP p nm).2 w':=by
 obtain ⟨⟨M1,M2,v3,v4,q,fs,V,C,fb,hD,hF,ht⟩,hb,ha,hc,hw⟩:=h
 obtain ⟨s1,s2,s3⟩:=ht.sizes
 have ho:=ht.opened nm
 have hwf:=ht.wf.remove nm
 revert hwf
 simp only [removeP]
 by_cases h1:(failP p).1≠0
 ·rw [if_pos h1]
  rw [if_pos h1] at ho
  intro hwf
  have:=Remove_ref hF hD (by omega) nm (by rw [ho];exact h1)
  rw [ho] at this
  exact this.mono fun e w' ⟨he,hl⟩=>⟨he,pl_of hl ht.fail.2⟩
 ·rw [if_neg h1]
  rw [if_neg h1,←failP_now] at ho
  cases hf:findP nm (failP p).2.now with
  | none =>
   rw [hf] at ho
   rw [if_pos rfl]
   intro hwf
   have:=Remove_ref hF hD (by omega) nm (by rw [ho];show (7:Int)≠0;decide)
   rw [ho] at this
   exact this.mono fun e w' ⟨he,hl⟩=>⟨he,pl_of hl ht.fail.2⟩
  | some i =>
   rw [hf] at ho
   rw [if_neg (by simp)]
   intro hwf
   have htc:=ht.fail.2.chg (c:=.gone nm) (by show (findP nm _).isSome=true;rw [hf];rfl) rfl hwf
   rw [failQ_now,failQ_nck,failQ_chs] at htc
   exact (Remove_go hF hD (by omega) ho (ht.look hf).1 (by omega)).mono fun e w' ⟨he,hl⟩=>⟨he,pl_of hl htc⟩
theorem pd_rename (h:PA X w db p) (nm to:ByteArray) (hs:to.size≤1000000) :
 Calls Tryz.prog 32 #[.pointer (some ⟨db,0,none⟩),.string nm,.string to] w fun e w'=>Ends w opRename nm (renameP p nm to).1 e w'∧PL X w db (renameP p nm to).2 w':=by
 obtain ⟨⟨M1,M2,v3,v4,q,fs,V,C,fb,hD,hF,ht⟩,hb,ha,hc,hw⟩:=h
 obtain ⟨s1,s2,s3⟩:=ht.sizes
 have ho:=ht.opened nm
 have hwf:=ht.wf.rename nm to
 revert hwf
 simp only [renameP]
 by_cases h1:(failP p).1≠0
 ·rw [if_pos h1]
  rw [if_pos h1] at ho
  intro hwf
  have:=Rename_ref hF hD (by omega) nm to (by rw [ho];exact h1)
  rw [ho] at this
  exact this.mono fun e w' ⟨he,hl⟩=>⟨he,pl_of hl ht.fail.2⟩
 ·rw [if_neg h1]
  rw [if_neg h1,←failP_now] at ho
  cases hf:findP nm (failP p).2.now with
  | none =>
   rw [hf] at ho
   rw [if_pos rfl]
   intro hwf
   have:=Rename_ref hF hD (by omega) nm to (by rw [ho];show (7:Int)≠0;decide)
   rw [ho] at this
   exact this.mono fun e w' ⟨he,hl⟩=>⟨he,pl_of hl ht.fail.2⟩
  | some i =>
   rw [hf] at ho
   rw [if_neg (by simp)]
   by_cases h2:nameOK to=false
   ·rw [if_pos h2]
    intro hwf
    exact (Rename_arg hF hD (by omega) ho to hs h2).mono fun e w' ⟨he,hl⟩=>⟨he,pl_of hl ht.fail.2⟩
   ·rw [if_neg h2]
    intro hwf
    have htc:=ht.fail.2.chg (c:=.moved nm to) ⟨by rw [hf];rfl,by simpa using h2⟩ rfl hwf
    rw [failQ_now,failQ_nck,failQ_chs] at htc
    exact (Rename_go hF hD (by omega) ho (ht.look hf).1 (by omega) to hs (by simpa using h2)).mono fun e w' ⟨he,hl⟩=>⟨he,pl_of hl htc⟩
theorem Tie.live (h:Tie fb fs C q p) {nm:ByteArray} {i:Nat} (hf:findP nm (failP p).2.now=some i):i∈(failP p).2.live∧fb i∈fs∧(C (fb i) true).length=((failP p).2.file i).length∧C (fb i) false=(failP p).2.file i∧(C (fb i) false).length≤4096∧(C (fb i) true).length≤4096:=by
 have h2:=h.fail.2
 obtain ⟨l1,l2⟩:=h2.wf.find hf
 have hl:=h2.wf.file_len i
 refine ⟨l1,h2.mem i l1,h2.len_t l1,h2.cs i l1,?_,?_⟩
 ·rw [h2.cs i l1];exact hl
 ·rw [h2.len_t l1];exact hl
theorem pd_grow (h:PA X w db p) (nm:ByteArray) (n:Int) :
 Calls Tryz.prog 24 #[.pointer (some ⟨db,0,none⟩),.string nm,.int .i64 n] w fun e w'=>Ends w opGrow nm (growP p nm n).1 e w'∧PL X w db (growP p nm n).2 w':=by
 obtain ⟨⟨M1,M2,v3,v4,q,fs,V,C,fb,hD,hF,ht⟩,hb,ha,hc,hw⟩:=h
 obtain ⟨s1,s2,s3⟩:=ht.sizes
 have ho:=ht.opened nm
 have hwf:=ht.wf.grow nm n
 revert hwf
 simp only [growP]
 by_cases h1:(failP p).1≠0
 ·rw [if_pos h1]
  rw [if_pos h1] at ho
  intro hwf
  have:=Grow_ref hF hD (by omega) nm n (by rw [ho];exact h1)
  rw [ho] at this
  exact this.mono fun e w' ⟨he,hl⟩=>⟨he,pl_of hl ht.fail.2⟩
 ·rw [if_neg h1]
  rw [if_neg h1,←failP_now] at ho
  cases hf:findP nm (failP p).2.now with
  | none =>
   rw [hf] at ho
   intro hwf
   have:=Grow_ref hF hD (by omega) nm n (by rw [ho];show (7:Int)≠0;decide)
   rw [ho] at this
   exact this.mono fun e w' ⟨he,hl⟩=>⟨he,pl_of hl ht.fail.2⟩
  | some i =>
   rw [hf] at ho
   obtain ⟨l1,l2,l3,l4,l5,l6⟩:=ht.live hf
   simp only
   by_cases h2:n<((failP p).2.file i).length∨4096<n
   ·rw [if_pos h2]
    intro hwf
    exact (Grow_arg hF hD (by omega) ho l2 n (by rw [l3];exact h2)).mono fun e w' ⟨he,hl⟩=>⟨he,pl_of hl ht.fail.2⟩
   ·rw [if_neg h2]
    obtain ⟨m,rfl⟩:∃ m:Nat,n=m:=⟨n.toNat,by omega⟩
    have hu:(lens C q.now:Int)=(failP p).2.used:=by
     have:=ht.fail.2.used
     rw [failQ_now] at this
     rw [this]
    have hroom:q.room=(failP p).2.room:=by
     have:=ht.fail.2.arms.1
     rw [failQ_room] at this
     exact this
    have hr2:=ht.fail.2.wf.room
    by_cases h3:(failP p).2.room<(failP p).2.used+(m:Int)-((failP p).2.file i).length
    ·rw [if_pos h3]
     intro hwf
     exact (Grow_full hF hD (by omega) ht.now_mem ht.now8 ht.now_len ho l2 (n:=m) (by omega) (by omega) (by rw [hu,hroom,l3];exact h3)).mono fun e w' ⟨he,hl⟩=>⟨he,pl_of hl ht.fail.2⟩
    ·rw [if_neg h3]
     intro hwf
     have htc:=ht.fail.2.grow l1 (List.replicate (m-((failP p).2.file i).length) zeroS) hwf
     refine (Grow_go hF hD hb (by omega) ht.now_mem ht.now8 ht.now_len ho l2 (n:=m) (by omega) (by omega) (by rw [hu,hroom,l3];omega) (by omega) l5).mono fun e w' ⟨he,hl⟩=>?_
     rw [l3] at hl
     rw [Int.toNat_natCast]
     exact ⟨he,pl_of hl htc⟩
theorem pd_write (h:PA X w db p) (nm:ByteArray) (n:Int) {Ap:Option Addr} {cp:Nat} {s:ByteArray} (hcv:∀ W,Fr X w W→(convert 36 101 (.slice Ap s.size cp)).run Tryz.prog W=.ok (.string s) W) :
 Calls Tryz.prog 25 #[.pointer (some ⟨db,0,none⟩),.string nm,.int .i64 n,.slice Ap s.size cp] w fun e w'=>Ends w opWrite nm (writeP p nm n s).1 e w'∧PL X w db (writeP p nm n s).2 w':=by
 obtain ⟨⟨M1,M2,v3,v4,q,fs,V,C,fb,hD,hF,ht⟩,hb,ha,hc,hw⟩:=h
 obtain ⟨s1,s2,s3⟩:=ht.sizes
 have ho:=ht.opened nm
 have hwf:=ht.wf.write nm n s
 revert hwf
 simp only [writeP]
 by_cases h1:(failP p).1≠0
 ·rw [if_pos h1]
  rw [if_pos h1] at ho
  intro hwf
  have:=Write_ref hF hD (by omega) nm n Ap s.size cp (by rw [ho];exact h1)
  rw [ho] at this
  exact this.mono fun e w' ⟨he,hl⟩=>⟨he,pl_of hl ht.fail.2⟩
 ·rw [if_neg h1]
  rw [if_neg h1,←failP_now] at ho
  cases hf:findP nm (failP p).2.now with
  | none =>
   rw [hf] at ho
   intro hwf
   have:=Write_ref hF hD (by omega) nm n Ap s.size cp (by rw [ho];show (7:Int)≠0;decide)
   rw [ho] at this
   exact this.mono fun e w' ⟨he,hl⟩=>⟨he,pl_of hl ht.fail.2⟩
  | some i =>
   rw [hf] at ho
   obtain ⟨l1,l2,l3,l4,l5,l6⟩:=ht.live hf
   simp only
   by_cases h2:n<0∨((failP p).2.file i).length≤n
   ·rw [if_pos h2]
    intro hwf
    refine (Write_sec hF hD (by omega) ho l2 n Ap s.size cp ?_).mono fun e w' ⟨he,hl⟩=>⟨he,pl_of hl ht.fail.2⟩
    rw [l3]
    simp only [Bool.and_eq_false_iff,decide_eq_false_iff_not]
    omega
   ·rw [if_neg h2]
    by_cases h3:s.size≠64
    ·rw [if_pos h3]
     intro hwf
     refine (Write_arg hF hD (by omega) ho l2 n Ap s.size cp ?_ h3).mono fun e w' ⟨he,hl⟩=>⟨he,pl_of hl ht.fail.2⟩
     rw [l3]
     simp only [Bool.and_eq_true,decide_eq_true_eq]
     omega
    ·rw [if_neg h3]
     intro hwf
     obtain ⟨m,rfl⟩:∃ m:Nat,n=m:=⟨n.toNat,by omega⟩
     have h64:s.size=64:=by omega
     have htc:=ht.fail.2.write (x:=⟨i,((m:Nat):Int).toNat,s⟩) l1 hwf
     rw [failQ_wrs] at htc
     rw [h64] at hcv ⊢
     refine (Write_go hF hD (by omega) ho l2 (n:=m) (by omega) l6 hcv (by omega)).mono fun e w' ⟨he,hl⟩=>?_
     rw [Int.toNat_natCast] at htc ⊢
     exact ⟨he,pl_of hl htc⟩
def StrOr (w:World) (v:Value) (s:ByteArray):Prop:=StrAt w v s∨v=.slice none 0 0∧s=ByteArray.empty
theorem pd_read (h:PA X w db p) (nm:ByteArray) (n:Int) :
 Calls Tryz.prog 26 #[.pointer (some ⟨db,0,none⟩),.string nm,.int .i64 n] w fun e w'=>(∃ v u,e=.returned (.tuple #[v,u])∧StrOr w' v (readP p nm n).2.1∧ErrAt w.heap.size w' opRead nm (readP p nm n).1 u)∧PL X w db (readP p nm n).2.2 w':=by
 obtain ⟨⟨M1,M2,v3,v4,q,fs,V,C,fb,hD,hF,ht⟩,hb,ha,hc,hw⟩:=h
 obtain ⟨s1,s2,s3⟩:=ht.sizes
 have ho:=ht.opened nm
 simp only [readP]
 by_cases h1:(failP p).1≠0
 ·rw [if_pos h1]
  rw [if_pos h1] at ho
  have:=Read_ref hF hD (by omega) nm n (by rw [ho];exact h1)
  rw [ho] at this
  exact this.mono fun e w' ⟨⟨v,he,hv⟩,hl⟩=>⟨⟨_,v,he,.inr ⟨rfl,rfl⟩,hv⟩,pl_of hl ht.fail.2⟩
 ·rw [if_neg h1]
  rw [if_neg h1,←failP_now] at ho
  unfold lookP
  cases hf:findP nm (failP p).2.now with
  | none =>
   rw [hf] at ho
   have:=Read_ref hF hD (by omega) nm n (by rw [ho];show (7:Int)≠0;decide)
   rw [ho] at this
   exact this.mono fun e w' ⟨⟨v,he,hv⟩,hl⟩=>⟨⟨_,v,he,.inr ⟨rfl,rfl⟩,hv⟩,pl_of hl ht.fail.2⟩
  | some i =>
   rw [hf] at ho
   obtain ⟨l1,l2,l3,l4,l5,l6⟩:=ht.live hf
   simp only
   by_cases h2:n<0∨((failP p).2.file i).length≤n
   ·rw [if_pos h2]
    refine (Read_sec hF hD (by omega) ho l2 n ?_).mono fun e w' ⟨⟨v,he,hv⟩,hl⟩=>⟨⟨_,v,he,.inr ⟨rfl,rfl⟩,hv⟩,pl_of hl ht.fail.2⟩
    rw [l3]
    simp only [Bool.and_eq_false_iff,decide_eq_false_iff_not]
    omega
   ·rw [if_neg h2]
    obtain ⟨m,rfl⟩:∃ m:Nat,n=m:=⟨n.toNat,by omega⟩
    have hcn:=ht.fail.2.cn i l1
    have hm:m<(C (fb i) true).length:=by omega
    have hs:(C (fb i) true)[m]?=some (((failP p).2.cont i).getD ((m:Nat):Int).toNat ByteArray.empty):=by
     rw [←hcn,Int.toNat_natCast,List.getD_eq_getElem?_getD,List.getElem?_eq_getElem hm];rfl
    refine (Read_go hF hD (by omega) ho l2 hs).mono fun e w' ⟨⟨v,he,hv⟩,hl⟩=>⟨⟨v,.nilIface,he,.inl hv,.inl ⟨rfl,rfl⟩⟩,pl_of hl ht.fail.2⟩
theorem pd_sync (h:PA X w db p) (nm:ByteArray) :
 Calls Tryz.prog 33 #[.pointer (some ⟨db,0,none⟩),.string nm] w fun e w'=>Ends w opSync nm (syncP p nm).1 e w'∧PL X w db (syncP p nm).2 w':=by
 obtain ⟨⟨M1,M2,v3,v4,q,fs,V,C,fb,hD,hF,ht⟩,hb,ha,hc,hw⟩:=h
 obtain ⟨s1,s2,s3⟩:=ht.sizes
 have ho:=ht.opened nm
 have hwf:=ht.wf.sync nm
 revert hwf
 simp only [syncP]
 by_cases h1:(failP p).1≠0
 ·rw [if_pos h1]
  rw [if_pos h1] at ho
  intro hwf
  have:=Sync_ref hF hD (by omega) nm (by rw [ho];exact h1)
  rw [ho] at this
  exact this.mono fun e w' ⟨he,hl⟩=>⟨he,pl_of hl ht.fail.2⟩
 ·rw [if_neg h1]
  rw [if_neg h1,←failP_now] at ho
  cases hf:findP nm (failP p).2.now with
  | none =>
   rw [hf] at ho
   intro hwf
   have:=Sync_ref hF hD (by omega) nm (by rw [ho];show (7:Int)≠0;decide)
   rw [ho] at this
   exact this.mono fun e w' ⟨he,hl⟩=>⟨he,pl_of hl ht.fail.2⟩
  | some i =>
   rw [hf] at ho
   obtain ⟨l1,l2,l3,l4,l5,l6⟩:=ht.live hf
   simp only
   intro hwf
   have htc:=ht.fail.2.sync l1 hwf
   rw [failQ_wrs] at htc
   refine (Sync_go hF hD hb (by omega) ho l2 (by omega) (by omega) (fun y hy=>?_)).mono fun e w' ⟨he,hl⟩=>⟨he,pl_of hl htc⟩
   rw [ht.wrs] at hy
   obtain ⟨x,hx,rfl⟩:=List.mem_map.1 hy
   exact ht.mem _ (live_wrs hx)
theorem pd_syncdir (h:PA X w db p) :
 Calls Tryz.prog 23 #[.pointer (some ⟨db,0,none⟩)] w fun e w'=>Ends w opSyncDir ByteArray.empty (syncdirP p).1 e w'∧PL X w db (syncdirP p).2 w':=by
 obtain ⟨⟨M1,M2,v3,v4,q,fs,V,C,fb,hD,hF,ht⟩,hb,ha,hc,hw⟩:=h
 obtain ⟨s1,s2,s3⟩:=ht.sizes
 have hwf:=ht.wf.syncdir
 revert hwf
 simp only [syncdirP]
 by_cases h1:(failP p).1≠0
 ·rw [if_pos h1]
  intro hwf
  have:=SyncDir_no hF hD (by omega) (by rw [ht.fail.1];exact h1)
  rw [ht.fail.1] at this
  exact this.mono fun e w' ⟨he,hl⟩=>⟨he,pl_of hl ht.fail.2⟩
 ·rw [if_neg h1]
  intro hwf
  have htc:=ht.fail.2.syncdir hwf
  rw [failQ_now,failQ_nck] at htc
  exact (SyncDir_go hF hD (by omega) (by rw [ht.fail.1];simpa using h1)).mono fun e w' ⟨he,hl⟩=>⟨he,pl_of hl htc⟩
theorem pd_arm (h:PA X w db p) (after code:Int) :
 Calls Tryz.prog 34 #[.pointer (some ⟨db,0,none⟩),.int .i64 after,.int .i64 code] w fun e w'=>e=.returned (.tuple #[])∧PL X w db (armP p after code) w':=by
 obtain ⟨⟨M1,M2,v3,v4,q,fs,V,C,fb,hD,hF,ht⟩,hb,ha,hc,hw⟩:=h
 exact (Arm_go hF hD after code).mono fun e w' ⟨he,hl⟩=>⟨he,pl_of hl (ht.arm after code)⟩
theorem Tie.near (h:Tie fb fs C q p):Tie fb (p.live.map fb) C q p:=⟨h.wf,h.arms,h.ok1,h.ok2,h.dir,h.now,h.chs,h.wrs,h.inj,fun i hi=>List.mem_map.2 ⟨i,hi,rfl⟩,h.cs,h.cn⟩
theorem pd_crash (h:PA X w db p) (changes:Int) (hch:-9223372036854775808≤changes∧changes≤9223372036854775807) {Ak:Option Addr} {ck:Nat} {ks:List Int}
 (hk:∀ W,Fr X w W→Reads W W.heap.size 1 Ak ks.length (ks.map (.int .i64))) (hks:ks.length≤1000000) :
 Calls Tryz.prog 19 #[.pointer (some ⟨db,0,none⟩),.int .i64 changes,.slice Ak ks.length ck] w fun e w'=>e=.returned (.tuple #[])∧PL X w db (crashP p changes ks) w':=by
 obtain ⟨⟨M1,M2,v3,v4,q,fs,V,C,fb,hD,hF,ht⟩,hb,ha,hc,hw⟩:=h
 obtain ⟨s1,s2,s3⟩:=ht.sizes
 have hF':=hF.sub (fs':=p.live.map fb) (fun f hf=>by obtain ⟨i,hi,rfl⟩:=List.mem_map.1 hf;exact ht.mem i hi)
 have ht':=ht.near
 obtain ⟨h1,h2,h3⟩:=ht'.crash changes ks (n:=min changes.toNat q.chs.length) rfl
 refine (Crash_any hF' hD hb changes hch hk hks (by omega) (by omega) rfl h1 (fun y hy=>?_) (fun f hf=>?_) h2).mono fun e w' ⟨he,hl⟩=>⟨he,pl_of hl h3⟩
 ·rw [ht.wrs] at hy
  obtain ⟨x,hx,rfl⟩:=List.mem_map.1 hy
  refine ⟨ht'.mem _ (live_wrs hx),?_⟩
  show x.n<(C (fb x.id) false).length
  rw [ht.cs _ (live_wrs hx)]
  exact (ht.wf.wrs x hx).1
 ·obtain ⟨i,hi,rfl⟩:=List.mem_map.1 hf
  rw [ht.cs i hi]
  exact Nat.le_trans (ht.wf.file_len i) (by omega)
end
end
section
open Go.RowKit
open Ev (ev CX AS AObj st1 c3 noCnv VRel LRel Hands hBase cxOK globT Fact)
namespace Da
def tok (k:Nat):Value:=.chan (some k)
def fTo:List Fact:=[⟨.neq,tok 0,tok 0,.bool false⟩,⟨.neq,tok 1,tok 1,.bool false⟩]
noncomputable def C1:Ev.Ctx:=CX [] fTo [] noCnv no
noncomputable def flt1 (k:Int):AObj:=.cells ⟨c3 (tok 0) (tok 1) (.iface 59 (.int .i64 k)),3,77,1,false,false⟩
def tArgs1:List Value:=[.iface 73 (.pointer (some ⟨0,0,none⟩)),tok 0,tok 1]
def codes:List Int:=[2,6,7,40,41,42,43,44]
set_option maxRecDepth 1000000
theorem told_runs:(codes.all fun k=>isInt k ((ev C1 1000).f 11 tArgs1 (st1 (flt1 k))))=true:=by kernel_rfl
end Da
open Da
def om1 (op nm:ByteArray):Nat→Value
 | 0=>.string op
 | 1=>.string nm
 | k=>.pointer (some ⟨1,k-hBase,none⟩)
section
variable {op nm:ByteArray}
theorem hands1:Hands (om1 op nm):=fun t=>by
 have:hBase+t=(hBase+t-2)+2:=by unfold hBase;omega
 rw [this]
 show Value.pointer (some ⟨1,hBase+t-2+2-hBase,none⟩)=_
 rw [show hBase+t-2+2-hBase=t by unfold hBase;omega]
theorem fTo_ok:∀ f∈fTo,f.ok (om1 op nm) Tryz.prog:=by
 intro f hf
 simp only [fTo,List.mem_cons,List.not_mem_nil,or_false] at hf
 rcases hf with rfl | rfl
 ·exact Fact.strNeq (ω:=om1 op nm) (s:=op) (u:=op) rfl rfl rfl rfl (by simp)
 ·exact Fact.strNeq (ω:=om1 op nm) (s:=nm) (u:=nm) rfl rfl rfl rfl (by simp)
theorem c1OK:Ev.COK (om1 op nm) C1:=cxOK hands1 (fun p hp=>by cases hp) fTo_ok (fun f hf=>by cases hf) Ev.noCnv_ok no
theorem bs1 {w:World} (hg:GlobAt w):Ev.Bs (om1 op nm) C1 1 w:=by
 refine ⟨?_,fun g v h=>⟨?_,(glob_of hands1 hg g v h).2⟩,(fun k h=>by cases h),(fun g cs h=>by cases h)⟩
 ·have:=World.block_lt_of_cell? w _ hg
  exact Nat.lt_of_le_of_lt (Nat.zero_le _) this
 ·have h':globT g=some v:=h
  unfold globT at h'
  cases hb:Nat.beq g 0 with
  | false=>rw [hb] at h';cases h'
  | true=>have:=Nat.eq_of_beq_eq_true hb;omega
def FaultX (w:World) (k:Nat):Prop:=∃ a b c,w.heap[k]?=some (.cells #[.string a,.string b,c] 77 (0,0))
theorem told_err {w:World} (hg:GlobAt w) {r:Nat} {k:Int} (hk:k∈codes) (hr:w.heap[r]?=some (.cells #[.string op,.string nm,.iface 59 (.int .i64 k)] 77 (0,0))) :
 Calls Tryz.prog 11 #[.iface 73 (.pointer (some ⟨r,0,none⟩)),.string op,.string nm] w fun e w'=>e=.returned (.int .i64 k)∧Fr (fun k=>k=r) w w':=by
 have h:∃ s,(ev C1 1000).f 11 tArgs1 (st1 (flt1 k))=some (.int .i64 k,s):=by
  have h:=List.all_eq_true.1 told_runs k hk
  unfold isInt at h
  split at h
  ·rename_i n s hr;exact ⟨s,by rw [hr,of_decide_eq_true h]⟩
  ·cases h
 obtain ⟨s,hs⟩:=h
 have hB:1≤r:=by
  rcases Nat.eq_zero_or_pos r with e | e
  ·subst e
   have hb:Blk w 0 77 _:=hr
   have h1:=hb.cell 0
   have hg':w.cell? ⟨0,0,none⟩=_:=hg
   rw [hg'] at h1
   simp at h1
  ·exact e
 refine (Ev.run_one (i:=⟨r,0,3,1,false,3⟩) c1OK hs (Ev.or_three hr (.tok 0 rfl) (.tok 1 rfl) (.iface _ _ _ (.plain _ rfl))) hB (Array.getElem?_eq_some_iff.1 hr).1 (LRel.cons (.iface _ _ _ (.ptr _ _ ⟨rfl,_,rfl,rfl⟩)) (LRel.cons (.tok 0 rfl) (LRel.cons (.tok 1 rfl) (LRel.nil _)))) (bs1 hg) rfl).mono ?_
 rintro e w' ⟨v',m',rfl,hv,hf,ho⟩
 exact ⟨by rw [Ev.plain_inv hv rfl],hf⟩
set_option maxHeartbeats 1000000 in
set_option maxRecDepth 100000 in
theorem told_none (w:World) (op nm:ByteArray):Calls Tryz.prog 11 #[.nilIface,.string op,.string nm] w fun e w'=>e=.returned (.int .i64 0)∧w=w':=by
 go_enter Tryz.func11,Tryz.ntmps11
 go_wp2
 go_ret
 exact ⟨rfl,rfl⟩
def FaultN (B:Nat) (w:World) (k:Nat):Prop:=B≤k∧FaultX w k
theorem told_at {B:Nat} {w:World} (hg:GlobAt w) {k:Int} {v:Value} (he:ErrAt B w op nm k v) (hk:k=0∨k∈codes) :
 Calls Tryz.prog 11 #[v,.string op,.string nm] w fun e w'=>e=.returned (.int .i64 k)∧Fr (FaultN B w) w w':=by
 rcases he with ⟨rfl,rfl⟩ | ⟨h0,r,hB,rfl,hr⟩
 ·refine (told_none w op nm).mono ?_
  rintro e w' ⟨rfl,rfl⟩
  exact ⟨rfl,Fr.refl _ _⟩
 ·refine (told_err hg (hk.resolve_left h0) hr).mono ?_
  rintro e w' ⟨rfl,hf⟩
  exact ⟨rfl,hf.mono (fun k _ e=>by subst e;exact ⟨hB,_,_,_,hr⟩)⟩
end
end
section
open Go.RowKit
section
variable {α:Type} {f:α→List Value} {k:Nat}
theorem flat_len (hf:∀ x,(f x).length=k) (l:List α):(l.flatMap f).length=l.length*k:=by
 induction l with
 | nil=>simp
 | cons x l ih=>rw [List.flatMap_cons,List.length_append,ih,hf,List.length_cons,Nat.succ_mul,Nat.add_comm]
theorem flat_at (hf:∀ x,(f x).length=k):∀ {l:List α} {i:Nat} {x:α},l[i]?=some x→∀ j,j<k→(l.flatMap f)[i*k+j]?=(f x)[j]?
 | [],i,x,h,j,hj=>by simp at h
 | y::l,0,x,h,j,hj=>by
  simp at h;subst h
  rw [List.flatMap_cons,List.getElem?_append_left (by rw [hf];omega)]
  simp
 | y::l,i+1,x,h,j,hj=>by
  rw [List.flatMap_cons,List.getElem?_append_right (by rw [hf,Nat.succ_mul];omega),←flat_at hf (l:=l) (i:=i) (x:=x) (by simpa using h) j hj,hf]
  congr 1
  rw [Nat.succ_mul];omega
end
def En.cells (e:En):List Value:=[.string e.nm,.int .i64 e.id]
def encells (l:List En):List Value:=l.flatMap En.cells
def Ch.cells:Ch→List Value
 | .new nm i=>[.int .i64 0,.string nm,.string ByteArray.empty,.int .i64 i]
 | .gone nm=>[.int .i64 1,.string nm,.string ByteArray.empty,.int .i64 0]
 | .moved a b=>[.int .i64 2,.string a,.string b,.int .i64 0]
def chcells (l:List Ch):List Value:=l.flatMap Ch.cells
def wcl (y:PW × Value):List Value:=[.int .i64 y.1.id,.int .i64 y.1.n,y.2]
def pwcells (l:List (PW × Value)):List Value:=l.flatMap wcl
def flc (V:Nat→Value) (i:Nat):List Value:=[.int .i64 i,V i]
def flcells (V:Nat→Value) (n:Nat):List Value:=(List.range n).flatMap (flc V)
theorem ch_len (c:Ch):c.cells.length=4:=by cases c <;> rfl
theorem en_at {l:List En} {i:Nat} {x:En} (h:l[i]?=some x) (j:Nat) (hj:j<2):(encells l)[i*2+j]?=x.cells[j]?:=flat_at (f:=En.cells) (k:=2) (fun _=>rfl) h j hj
theorem ch_at {l:List Ch} {i:Nat} {x:Ch} (h:l[i]?=some x) (j:Nat) (hj:j<4):(chcells l)[i*4+j]?=x.cells[j]?:=flat_at ch_len h j hj
theorem pw_at {l:List (PW × Value)} {i:Nat} {x:PW × Value} (h:l[i]?=some x) (j:Nat) (hj:j<3):(pwcells l)[i*3+j]?=(wcl x)[j]?:=flat_at (f:=wcl) (k:=3) (fun _=>rfl) h j hj
theorem fl_at {V:Nat→Value} {n i:Nat} (h:i<n) (j:Nat) (hj:j<2):(flcells V n)[i*2+j]?=(flc V i)[j]?:=flat_at (f:=flc V) (k:=2) (fun _=>rfl) (by simp [h]) j hj
theorem en_len (l:List En):(encells l).length=l.length*2:=flat_len (f:=En.cells) (k:=2) (fun _=>rfl) l
theorem fl_len (V:Nat→Value) (n:Nat):(flcells V n).length=n*2:=by unfold flcells;rw [flat_len (k:=2) (fun _=>rfl)];simp
theorem en_append (l m:List En):encells (l++m)=encells l++encells m:=List.flatMap_append
theorem ch_append (l m:List Ch):chcells (l++m)=chcells l++chcells m:=List.flatMap_append
theorem pw_append (l m:List (PW × Value)):pwcells (l++m)=pwcells l++pwcells m:=List.flatMap_append
theorem fl_succ (V:Nat→Value) (n:Nat):flcells V (n+1)=flcells V n++flc V n:=by unfold flcells;rw [List.range_succ,List.flatMap_append];simp
theorem fl_congr {V V':Nat→Value} {n:Nat} (h:∀ i,i<n→V i=V' i):flcells V n=flcells V' n:=by
 induction n with
 | zero=>rfl
 | succ n ih=>rw [fl_succ,fl_succ,ih (fun i hi=>h i (by omega))];unfold flc;rw [h n (by omega)]
def updV (V:Nat→Value) (i:Nat) (v:Value):Nat→Value:=fun j=>if j=i then v else V j
theorem fl_set {V:Nat→Value} {n i:Nat} {v:Value} (h:i<n):(flcells V n).set (i*2+1) v=flcells (updV V i v) n:=by
 induction n with
 | zero=>omega
 | succ n ih =>
  rw [fl_succ,fl_succ]
  by_cases e:i=n
  ·subst e
   rw [List.set_append_right _ _ (by rw [fl_len];omega),fl_len,show i*2+1-i*2=1 by omega,fl_congr (V':=updV V i v) (fun j hj=>by unfold updV;rw [if_neg (by omega)])]
   simp [flc,updV]
  ·rw [List.set_append_left _ _ (by rw [fl_len];omega),ih (by omega)]
   congr 1
   unfold flc updV
   rw [if_neg (fun h=>e h.symm)]
def SecW (w:World) (v:Value) (s:ByteArray):Prop:=s.size=64∧∃ g c cur,v=.slice (some ⟨g,0,none⟩) 64 c∧w.heap[g]?=some (.cells cur 5 (0,0))∧∀ j,j<64→cur[j]?=some (.int .u8 (s.data.toList.getD j 0).toNat)
def KB (w w':World):Prop:=∀ (g:Nat) (cs:Array Value),w.heap[g]?=some (.cells cs 5 (0,0))→w'.heap[g]?=some (.cells cs 5 (0,0))
theorem KB.trans {a b c:World} (h:KB a b) (k:KB b c):KB a c:=fun g cs hg=>k g cs (h g cs hg)
theorem KB.refl (w:World):KB w w:=fun _ _ h=>h
theorem KB.of_below {w w':World} (hb:Below w.heap.size w w'):KB w w':=fun g cs hg=>(hb.block g (Array.getElem?_eq_some_iff.1 hg).1).trans hg
theorem KB.of_fr {Y:Nat→Prop} {w w':World} (hf:Fr Y w w') (hY:∀ k cs,Y k→w.heap[k]?≠some (.cells cs 5 (0,0))):KB w w':=fun g cs hg=>hf.heap hg (fun hy=>hY g cs hy hg)
theorem SecW.keep {w w':World} {v:Value} {s:ByteArray} (h:SecW w v s) (hk:KB w w'):SecW w' v s:=by
 obtain ⟨h1,g,c,cur,h2,h3,h4⟩:=h
 exact ⟨h1,g,c,cur,h2,hk g cur h3,h4⟩
theorem SecW.str {w:World} {v:Value} {s:ByteArray} (h:SecW w v s):StrAt w v s:=by
 obtain ⟨h1,g,c,cur,h2,h3,h4⟩:=h
 refine ⟨g,c,by rw [h1];exact h2,(Array.getElem?_eq_some_iff.1 h3).1,fun j hj=>?_⟩
 rw [(show Blk w g 5 cur from h3).cell]
 exact h4 j (by omega)
def RT (t:Nat):Prop:=t=72∨t=137∨t=162∨t=111∨t=165∨t=36
theorem RT.byte:¬ RT 5:=by unfold RT;decide
structure RefV (X:Nat→Prop) (w:World) (rb:Nat) (vd vc vf vw:Value) (V:Nat→Value) (L:Nat→List (ByteArray × Value)) (W:List (PW × Value)) (p:DP):Prop where
 blk:Blk w rb 72 #[.int .i64 p.room,vd,vc,vf,vw,.int .i64 p.files.length,.bool p.armed,.int .i64 p.after,.int .i64 p.code]
 inX:X rb
 dir:RowX X w 137 2 vd p.dir.length (encells p.dir)
 chs:RowX X w 162 4 vc p.chs.length (chcells p.chs)
 fl:RowX X w 111 2 vf p.files.length (flcells V p.files.length)
 wrs:RowX X w 165 3 vw p.wrs.length (pwcells W)
 wp:p.wrs=W.map (·.1)
 ws:∀ y∈W,SecW w y.2 y.1.s
 lp:∀ i,i<p.files.length→p.file i=(L i).map (·.1)
 ls:∀ i,i<p.files.length→∀ y∈L i,SecW w y.2 y.1
 row:∀ i,i<p.files.length→RowX X w 36 1 (V i) (L i).length ((L i).map (·.2))
 inj:∀ i j k,i<p.files.length→j<p.files.length→(V i).ownBlock=some k→(V j).ownBlock=some k→i=j
section
variable {X X':Nat→Prop} {w w' w1 w2 w3:World} {rb:Nat} {vd vc vf vw:Value} {V:Nat→Value} {L:Nat→List (ByteArray × Value)} {W:List (PW × Value)} {p:DP}
theorem RefV.keep (h:RefV X w rb vd vc vf vw V L W p) (hX:∀ k,X k→X' k) (hs:Same RT X w w') (hk:KB w w'):RefV X' w' rb vd vc vf vw V L W p :=
 ⟨hs rb _ _ (.inl rfl) h.inX h.blk,hX _ h.inX,h.dir.keep (fun k cs hx _ hk=>hs k cs _ (.inr (.inl rfl)) hx hk) hX,h.chs.keep (fun k cs hx _ hk=>hs k cs _ (.inr (.inr (.inl rfl))) hx hk) hX,
  h.fl.keep (fun k cs hx _ hk=>hs k cs _ (.inr (.inr (.inr (.inl rfl)))) hx hk) hX,h.wrs.keep (fun k cs hx _ hk=>hs k cs _ (.inr (.inr (.inr (.inr (.inl rfl))))) hx hk) hX,h.wp,fun y hy=>(h.ws y hy).keep hk,h.lp,
  fun i hi y hy=>(h.ls i hi y hy).keep hk,fun i hi=>(h.row i hi).keep (fun k cs hx _ hk=>hs k cs _ (.inr (.inr (.inr (.inr (.inr rfl))))) hx hk) hX,h.inj⟩
theorem RefV.below (h:RefV X w rb vd vc vf vw V L W p) (hb:Below w.heap.size w w'):RefV X w' rb vd vc vf vw V L W p:=h.keep (fun _ h=>h) (Same.of_below hb) (KB.of_below hb)
theorem RefV.only (h:RefV X w rb vd vc vf vw V L W p):RefV (fun k=>X k∧∃ cs t,RT t∧w.heap[k]?=some (.cells cs t (0,0))) w rb vd vc vf vw V L W p:=by
 have hr:∀ {e size n:Nat} {v:Value} {xs:List Value},RT e→RowX X w e size v n xs→RowX (fun k=>X k∧∃ cs t,RT t∧w.heap[k]?=some (.cells cs t (0,0))) w e size v n xs:=fun he hx =>
  ⟨hx.1,fun k hk=>⟨hx.2 k hk,by obtain ⟨cur,h1⟩:=hx.block hk;exact ⟨cur,_,he,h1⟩⟩⟩
 exact ⟨h.blk,⟨h.inX,_,_,.inl rfl,h.blk⟩,hr (.inr (.inl rfl)) h.dir,hr (.inr (.inr (.inl rfl))) h.chs,hr (.inr (.inr (.inr (.inl rfl)))) h.fl,hr (.inr (.inr (.inr (.inr (.inl rfl))))) h.wrs,h.wp,h.ws,h.lp,h.ls,fun i hi=>hr (.inr (.inr (.inr (.inr (.inr rfl))))) (h.row i hi),h.inj⟩
theorem RefV.cell (h:RefV X w rb vd vc vf vw V L W p) (hX:∀ k,X k→X' k) {o:Nat} {u:Value} {vd' vc' vf' vw':Value} {W':List (PW × Value)} {p':DP}
 (hc:(#[.int .i64 p.room,vd,vc,vf,vw,.int .i64 p.files.length,.bool p.armed,.int .i64 p.after,.int .i64 p.code]:Array Value).setIfInBounds o u=#[.int .i64 p'.room,vd',vc',vf',vw',.int .i64 p'.files.length,.bool p'.armed,.int .i64 p'.after,.int .i64 p'.code])
 (hfl:p'.files=p.files) (hd:RowX X' w 137 2 vd' p'.dir.length (encells p'.dir)) (hch:RowX X' w 162 4 vc' p'.chs.length (chcells p'.chs)) (hfr:RowX X' w 111 2 vf' p.files.length (flcells V p.files.length)) (hw:RowX X' w 165 3 vw' p'.wrs.length (pwcells W'))
 (hwp:p'.wrs=W'.map (·.1)) (hws:∀ y∈W',SecW w y.2 y.1.s):RefV X' (w.setCell ⟨rb,o,none⟩ u) rb vd' vc' vf' vw' V L W' p':=by
 have hoth:∀ k,k≠rb→(w.setCell ⟨rb,o,none⟩ u).heap[k]?=w.heap[k]?:=fun k hk=>Below.heap_setCell _ _ _ _ hk
 have hrow:∀ {Y:Nat→Prop} {e size n:Nat} {v:Value} {xs:List Value},72≠e→RowX Y w e size v n xs→RowX Y (w.setCell ⟨rb,o,none⟩ u) e size v n xs:=fun he hr =>
  hr.keep (fun k cs hx hk h3=>(hoth k (blk_row_ne h.blk hr hk he)).trans h3) (fun k hx=>hx)
 have hkb:KB w (w.setCell ⟨rb,o,none⟩ u):=fun g cs hg=>(hoth g (fun e=>by subst e;have:=h.blk;unfold Blk at this;rw [this] at hg;cases hg)).trans hg
 have hfile:∀ i,p'.file i=p.file i:=fun i=>by unfold DP.file;rw [hfl]
 refine ⟨hc ▸ h.blk.set_ o u,hX _ h.inX,hrow (by decide) hd,hrow (by decide) hch,?_,hrow (by decide) hw,hwp,fun y hy=>(hws y hy).keep hkb,fun i hi=>?_,fun i hi y hy=>?_,fun i hi=>?_,fun i j k hi hj=>?_⟩
 ·rw [hfl];exact hrow (by decide) hfr
 ·rw [hfile];exact h.lp i (by rw [hfl] at hi;exact hi)
 ·exact (h.ls i (by rw [hfl] at hi;exact hi) y hy).keep hkb
 ·exact hrow (by decide) ((h.row i (by rw [hfl] at hi;exact hi)).keep (fun _ _ _ _ h=>h) hX)
 ·exact h.inj i j k (by rw [hfl] at hi;exact hi) (by rw [hfl] at hj;exact hj)
end
end
end Go.Proofs.YtekajggjoeimoaaGreatDoor
