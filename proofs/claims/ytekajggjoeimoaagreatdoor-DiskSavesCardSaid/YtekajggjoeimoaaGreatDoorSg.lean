/- A part of the proof of DiskSaves. No condition of its own. -/
import Derived.Test.YtekajggjoeimoaaGreatDoorSf
import Derived.Deep.RegionLaw
import Derived.Deep.RegionHeld3
import Derived.Maps.RangeRun
import Derived.Shelf.Bits.Mul64
import Derived.Shelf.SlMaps.Clone
import Derived.StillTail
set_option linter.unusedVariables false
namespace Go.Proofs.YtekajggjoeimoaaGreatDoor
section
open Go.RowKit
structure Cq where
 nm:ByteArray
 to:ByteArray
 f:Option Nat
def Cq.cells (c:Cq):List Value:=[.string c.nm,.string c.to,.pointer (c.f.map fun f=>⟨f,0,none⟩)]
def cqcells (l:List Cq):List Value:=l.flatMap Cq.cells
theorem cqcells_cons (x:Cq) (l:List Cq):cqcells (x::l)=x.cells++cqcells l:=by simp [cqcells]
theorem cqcells_append (l m:List Cq):cqcells (l++m)=cqcells l++cqcells m:=by simp [cqcells]
theorem wcells_append (l m:List Wr):wcells (l++m)=wcells l++wcells m:=by simp [wcells]
theorem cqcells_at:∀ {l:List Cq} {k:Nat} {x:Cq},l[k]?=some x→∀ j,j<3→(cqcells l)[k*3+j]?=x.cells[j]?
 | [],k,x,h,j,hj=>by simp at h
 | y::l,0,x,h,j,hj=>by
  simp at h;subst h
  rw [cqcells_cons,List.getElem?_append_left (by simp [Cq.cells];omega)]
  simp
 | y::l,k+1,x,h,j,hj=>by
  rw [cqcells_cons,List.getElem?_append_right (by simp [Cq.cells];omega)]
  have:=cqcells_at (l:=l) (k:=k) (x:=x) (by simpa using h) j hj
  rw [←this]
  congr 1
  simp [Cq.cells];omega
structure DQ where
 room:Int
 dir:List DE
 dck:Nat
 now:List DE
 nck:Nat
 chs:List Cq
 wrs:List Wr
 armed:Bool
 after:Int
 code:Int
structure MapOK (l:List DE) (ck:Nat):Prop where
 born:∀ x∈l,x.born<ck
 order:l.Pairwise (fun x y=>x.born<y.born)
 nodup:(l.map DE.nm).Nodup
structure DiskV (X:Nat→Prop) (w:World) (db M1 M2:Nat) (v3 v4:Value) (q:DQ):Prop where
 blk:Blk w db 66 (dcells q.room (.map (some M1)) (.map (some M2)) v3 v4 q.armed q.after q.code)
 m1:w.heap[M1]?=some (.map (q.dir.map DE.ent).toArray q.dck)
 m2:w.heap[M2]?=some (.map (q.now.map DE.ent).toArray q.nck)
 ne:M1≠M2
 inX:X db
 inX1:X M1
 inX2:X M2
 ok1:MapOK q.dir q.dck
 ok2:MapOK q.now q.nck
 chs:RowX X w 108 3 v3 q.chs.length (cqcells q.chs)
 wrs:RowX X w 106 3 v4 q.wrs.length (wcells q.wrs)
def DT (t:Nat):Prop:=t=66∨t=108∨t=106
def SameM (X:Nat→Prop) (w w':World):Prop:=∀ k es ck,X k→w.heap[k]?=some (.map es ck)→w'.heap[k]?=some (.map es ck)
theorem SameM.of_below {X:Nat→Prop} {w w':World} (hb:Below w.heap.size w w'):SameM X w w':=fun k es ck hx hk=>(hb.block k (Array.getElem?_eq_some_iff.1 hk).1).trans hk
section
variable {X X':Nat→Prop} {w w' w1:World} {db M1 M2:Nat} {v3 v4:Value} {q:DQ}
theorem DiskV.keep (h:DiskV X w db M1 M2 v3 v4 q) (hX:∀ k,X k→X' k) (hs:Same DT X w w') (hm:SameM X w w'):DiskV X' w' db M1 M2 v3 v4 q :=
 ⟨hs db _ _ (.inl rfl) h.inX h.blk,hm M1 _ _ h.inX1 h.m1,hm M2 _ _ h.inX2 h.m2,h.ne,hX _ h.inX,hX _ h.inX1,hX _ h.inX2,h.ok1,h.ok2,h.chs.keep (fun k cs hx _ hk=>hs k cs _ (.inr (.inl rfl)) hx hk) hX,h.wrs.keep (fun k cs hx _ hk=>hs k cs _ (.inr (.inr rfl)) hx hk) hX⟩
theorem DiskV.below (h:DiskV X w db M1 M2 v3 v4 q) (hb:Below w.heap.size w w'):DiskV X w' db M1 M2 v3 v4 q:=h.keep (fun _ h=>h) (Same.of_below hb) (SameM.of_below hb)
theorem DiskV.m1_ne (h:DiskV X w db M1 M2 v3 v4 q):M1≠db:=fun e=>by subst e;have:=h.blk;unfold Blk at this;rw [h.m1] at this;cases this
theorem DiskV.m2_ne (h:DiskV X w db M1 M2 v3 v4 q):M2≠db:=fun e=>by subst e;have:=h.blk;unfold Blk at this;rw [h.m2] at this;cases this
theorem blk_row_ne {t e size n:Nat} {v:Value} {cs:Array Value} {xs:List Value} {b k:Nat} (hb:Blk w b t cs) (hr:RowX X w e size v n xs) (hk:v.ownBlock=some k) (he:t≠e):k≠b:=by
 rintro rfl
 obtain ⟨cur,h1⟩:=hr.block hk
 unfold Blk at hb
 rw [hb] at h1
 cases h1
 exact he rfl
theorem map_row_ne {e size n ck:Nat} {es:Array MapEntry} {v:Value} {xs:List Value} {b k:Nat} (hb:w.heap[b]?=some (.map es ck)) (hr:RowX X w e size v n xs) (hk:v.ownBlock=some k):k≠b:=by
 rintro rfl
 obtain ⟨cur,h1⟩:=hr.block hk
 rw [hb] at h1
 cases h1
theorem DiskV.cells (h:DiskV X w db M1 M2 v3 v4 q) (hX:∀ k,X k→X' k) {M1' M2':Nat} {v3' v4':Value} {q':DQ}
 (hb:Blk w' db 66 (dcells q'.room (.map (some M1')) (.map (some M2')) v3' v4' q'.armed q'.after q'.code))
 (h1:w'.heap[M1']?=some (.map (q'.dir.map DE.ent).toArray q'.dck)) (h2:w'.heap[M2']?=some (.map (q'.now.map DE.ent).toArray q'.nck)) (hne:M1'≠M2') (x1:X' M1') (x2:X' M2') (o1:MapOK q'.dir q'.dck) (o2:MapOK q'.now q'.nck)
 (hc:RowX X' w' 108 3 v3' q'.chs.length (cqcells q'.chs)) (hw:RowX X' w' 106 3 v4' q'.wrs.length (wcells q'.wrs)):DiskV X' w' db M1' M2' v3' v4' q' :=
 ⟨hb,h1,h2,hne,hX _ h.inX,x1,x2,o1,o2,hc,hw⟩
theorem DiskV.far (h:DiskV X w db M1 M2 v3 v4 q) {o:Nat} {u:Value}:SameM X w (w.setCell ⟨db,o,none⟩ u)∧(∀ k,k≠db→(w.setCell ⟨db,o,none⟩ u).heap[k]?=w.heap[k]?):=by
 have hoth:∀ k,k≠db→(w.setCell ⟨db,o,none⟩ u).heap[k]?=w.heap[k]?:=fun k hk=>Below.heap_setCell _ _ _ _ hk
 refine ⟨fun k es ck hx hk=>(hoth k (fun e=>?_)).trans hk,hoth⟩
 subst e
 have:=h.blk
 unfold Blk at this
 rw [this] at hk
 cases hk
theorem DiskV.set (h:DiskV X w db M1 M2 v3 v4 q) (hX:∀ k,X k→X' k) {o:Nat} {u:Value} {v3' v4':Value} {q':DQ}
 (hc:(dcells q.room (.map (some M1)) (.map (some M2)) v3 v4 q.armed q.after q.code).setIfInBounds o u=dcells q'.room (.map (some M1)) (.map (some M2)) v3' v4' q'.armed q'.after q'.code)
 (e1:q'.dir=q.dir) (e2:q'.dck=q.dck) (e3:q'.now=q.now) (e4:q'.nck=q.nck) (r3:RowX X' w 108 3 v3' q'.chs.length (cqcells q'.chs)) (r4:RowX X' w 106 3 v4' q'.wrs.length (wcells q'.wrs)) :
 DiskV X' (w.setCell ⟨db,o,none⟩ u) db M1 M2 v3' v4' q':=by
 obtain ⟨hm,hoth⟩:=h.far (o:=o) (u:=u)
 have hrow:∀ (e size n:Nat) (v:Value) (xs:List Value),66≠e→RowX X' w e size v n xs→RowX X' (w.setCell ⟨db,o,none⟩ u) e size v n xs:=fun e size n v xs he hr =>
  hr.keep (fun k cs hx hk h3=>(hoth k (blk_row_ne h.blk hr hk he)).trans h3) (fun k hx=>hx)
 refine h.cells hX (hc ▸ h.blk.set_ o u) ?_ ?_ h.ne (hX _ h.inX1) (hX _ h.inX2) ?_ ?_ (hrow _ _ _ _ _ (by decide) r3) (hrow _ _ _ _ _ (by decide) r4)
 ·rw [e1,e2];exact hm _ _ _ h.inX1 h.m1
 ·rw [e3,e4];exact hm _ _ _ h.inX2 h.m2
 ·rw [e1,e2];exact h.ok1
 ·rw [e3,e4];exact h.ok2
def failQ (q:DQ):Int × DQ:=if q.armed=false then (0,q) else if 0<q.after then (0,{q with after:=q.after-1}) else (q.code,{q with armed:=false})
end
end
section
open Go.RowKit
open Da
def ErrAt (B:Nat) (w:World) (op nm:ByteArray) (k:Int) (v:Value):Prop :=
 (k=0∧v=.nilIface)∨(k≠0∧∃ r,B≤r∧v=.iface 73 (.pointer (some ⟨r,0,none⟩))∧w.heap[r]?=some (.cells #[.string op,.string nm,.iface 59 (.int .i64 k)] 77 (0,0)))
theorem ErrAt.mono {B B':Nat} {w:World} {op nm:ByteArray} {k:Int} {v:Value} (h:ErrAt B w op nm k v) (hB:B'≤B):ErrAt B' w op nm k v:=h.imp id fun ⟨h0,r,h1,h2⟩=>⟨h0,r,Nat.le_trans hB h1,h2⟩
theorem ErrAt.zero {B B':Nat} {w w':World} {op nm op' nm':ByteArray} {v:Value} (h:ErrAt B w op nm 0 v):ErrAt B' w' op' nm' 0 v:=.inl (h.elim id fun h=>absurd rfl h.1)
theorem fault_any (w:World) (op nm:ByteArray) (k:Int):Calls Tryz.prog 29 #[.string op,.string nm,.int .i64 k] w fun e w'=>(∃ v,e=.returned v∧ErrAt w.heap.size w' op nm k v)∧Below w.heap.size w w':=by
 by_cases hk:k=0
 ·subst hk
  refine (fault_ok w op nm).mono ?_
  rintro e w' ⟨rfl,rfl⟩
  exact ⟨⟨_,rfl,.inl ⟨rfl,rfl⟩⟩,Below.refl _ _⟩
 ·refine (fault_err w op nm k (by simpa using hk)).mono ?_
  rintro e w' ⟨rfl,rfl⟩
  exact ⟨⟨_,rfl,.inr ⟨hk,_,Nat.le_refl _,rfl,heap_alloc_new w _⟩⟩,(Below.refl _ _).alloc (Nat.le_refl _) _⟩
section
variable {X:Nat→Prop} {w:World} {db M1 M2:Nat} {v3 v4:Value} {q:DQ}
theorem DiskV.set6 (h:DiskV X w db M1 M2 v3 v4 q) (a:Int):DiskV X (w.setCell ⟨db,6,none⟩ (.int .i64 a)) db M1 M2 v3 v4 {q with after:=a}:=h.set (fun _ h=>h) rfl rfl rfl rfl rfl h.chs h.wrs
theorem DiskV.set5 (h:DiskV X w db M1 M2 v3 v4 q) (a:Bool):DiskV X (w.setCell ⟨db,5,none⟩ (.bool a)) db M1 M2 v3 v4 {q with armed:=a}:=h.set (fun _ h=>h) rfl rfl rfl rfl rfl h.chs h.wrs
theorem DiskV.set7 (h:DiskV X w db M1 M2 v3 v4 q) (a:Int):DiskV X (w.setCell ⟨db,7,none⟩ (.int .i64 a)) db M1 M2 v3 v4 {q with code:=a}:=h.set (fun _ h=>h) rfl rfl rfl rfl rfl h.chs h.wrs
set_option maxHeartbeats 1000000 in
set_option maxRecDepth 100000 in
theorem refuses_on' {room after code:Int} {sf nw ch wrs:Value} (h:Blk w db 66 (dcells room sf nw ch wrs true after code)) (ha:0<after) (ha2:after≤9223372036854775807) :
 Calls Tryz.prog 70 #[.pointer (some ⟨db,0,none⟩)] w fun e w'=>e=.returned (.int .i64 0)∧w'=w.setCell ⟨db,6,none⟩ (.int .i64 (after-1)):=by
 have c5:w.cell? ⟨db,5,none⟩=some (.bool true):=h.cell 5
 have c6:w.cell? ⟨db,6,none⟩=some (.int .i64 after):=h.cell 6
 have f6:=h.frozen 6
 have d1:decide (0<after)=true:=by simpa using ha
 have e1:wrap64 (after-1)=after-1:=by simp only [wrap64];omega
 go_enter Tryz.func70,Tryz.ntmps70
 go_wp2
 go_ret
 exact ⟨rfl,rfl⟩
set_option maxHeartbeats 1000000 in
set_option maxRecDepth 100000 in
theorem refuses_now' {room after code:Int} {sf nw ch wrs:Value} (h:Blk w db 66 (dcells room sf nw ch wrs true after code)) (ha:after≤0) :
 Calls Tryz.prog 70 #[.pointer (some ⟨db,0,none⟩)] w fun e w'=>e=.returned (.int .i64 code)∧w'=w.setCell ⟨db,5,none⟩ (.bool false):=by
 have c5:w.cell? ⟨db,5,none⟩=some (.bool true):=h.cell 5
 have c6:w.cell? ⟨db,6,none⟩=some (.int .i64 after):=h.cell 6
 have c7:(w.setCell ⟨db,5,none⟩ (.bool false)).cell? ⟨db,7,none⟩=some (.int .i64 code):=(h.set_ 5 (.bool false)).cell 7
 have f5:=h.frozen 5
 have d1:decide (0<after)=false:=by simpa using ha
 go_enter Tryz.func70,Tryz.ntmps70
 go_wp2
 go_ret
 exact ⟨rfl,rfl⟩
structure Near (X:Nat→Prop) (db:Nat) (w w1:World):Prop where
 fr:Fr (fun k=>k=db) w w1
 size:w1.heap.size=w.heap.size
 files:Same FT X w w1
theorem Near.refl:Near X db w w:=⟨Fr.refl _ _,rfl,Same.refl⟩
theorem DiskV.near (h:DiskV X w db M1 M2 v3 v4 q) (o:Nat) (u:Value):Near X db w (w.setCell ⟨db,o,none⟩ u):=by
 obtain ⟨_,hoth⟩:=h.far (o:=o) (u:=u)
 refine ⟨(Fr.refl (fun k=>k=db) w).setCell (p:=⟨db,o,none⟩) (.inr rfl) _,by simp [World.setCell],fun k cs t ht hx hk=>(hoth k (fun e=>?_)).trans hk⟩
 subst e
 have:=h.blk
 unfold Blk at this
 rw [this] at hk
 cases hk
 rcases ht with ht | ht <;> cases ht
theorem refuses_any (h:DiskV X w db M1 M2 v3 v4 q) (ha:q.after≤9223372036854775807) :
 ∃ w1,(Calls Tryz.prog 70 #[.pointer (some ⟨db,0,none⟩)] w fun e w'=>e=.returned (.int .i64 (failQ q).1)∧w'=w1)∧DiskV X w1 db M1 M2 v3 v4 (failQ q).2∧Near X db w w1:=by
 unfold failQ
 have hb:=h.blk
 cases e:q.armed with
 | false =>
  rw [e] at hb
  rw [if_pos rfl]
  refine ⟨w,(refuses_off hb).mono ?_,h,Near.refl⟩
  rintro e w' ⟨rfl,rfl⟩
  exact ⟨rfl,rfl⟩
 | true =>
  rw [e] at hb
  rw [if_neg (by decide)]
  by_cases h0:0<q.after
  ·rw [if_pos h0]
   have h6:=h.set6 (q.after-1)
   rw [e] at h6
   exact ⟨_,refuses_on' hb h0 ha,h6,h.near _ _⟩
  ·rw [if_neg h0]
   exact ⟨_,refuses_now' hb (by omega),h.set5 false,h.near _ _⟩
def openedQ (q:DQ) (nm:ByteArray):Int × Option Nat:=if (failQ q).1≠0 then ((failQ q).1,none) else match look nm q.now 0 with
 | some r=>(0,some r.2.f)
 | none=>(7,none)
theorem failQ_now (q:DQ):(failQ q).2.now=q.now:=by unfold failQ;split <;> (try split) <;> rfl
theorem opened_any (h:DiskV X w db M1 M2 v3 v4 q) (ha:q.after≤9223372036854775807) (nm:ByteArray) :
 ∃ w1,(Calls Tryz.prog 73 #[.pointer (some ⟨db,0,none⟩),.string nm] w fun e w'=>e=.returned (.tuple #[.pointer ((openedQ q nm).2.map fun f=>⟨f,0,none⟩),.int .i64 (openedQ q nm).1])∧w'=w1)∧DiskV X w1 db M1 M2 v3 v4 (failQ q).2∧Near X db w w1:=by
 obtain ⟨w1,hR,hD,hN⟩:=refuses_any h ha
 refine ⟨w1,?_,hD,hN⟩
 unfold openedQ
 by_cases hc:(failQ q).1=0
 ·rw [if_neg (by simpa using hc)]
  rw [hc] at hR
  have hm2:=hD.m2
  rw [failQ_now] at hm2
  cases hl:look nm q.now 0 with
  | some r=>exact opened_go hR (file_some hD.blk hm2 hl)
  | none=>exact opened_go hR (file_none hD.blk hm2 hl)
 ·rw [if_pos hc]
  exact opened_no hR (by simpa using hc)
end
end
section
open Go.RowKit
def lkF (x:ByteArray) (l:List DE):Option Nat:=(look x l 0).map (·.2.f)
theorem look_shift (x:ByteArray):∀ (l:List DE) (i:Nat),(look x l i).map (·.2)=(look x l 0).map (·.2)
 | [],i=>rfl
 | y::l,i=>by
  unfold look
  by_cases h:y.nm=x
  ·rw [if_pos h,if_pos h];rfl
  ·rw [if_neg h,if_neg h,look_shift x l (i+1),look_shift x l 1]
theorem lkF_nil (x:ByteArray):lkF x []=none:=rfl
theorem lkF_cons (x:ByteArray) (y:DE) (l:List DE):lkF x (y::l)=if y.nm=x then some y.f else lkF x l:=by
 have h2:∀ i,(look x l i).map (·.2.f)=(look x l 0).map (·.2.f):=fun i=>by
  have h:=look_shift x l i
  have h3:=congrArg (Option.map DE.f) h
  simpa [Option.map_map,Function.comp_def] using h3
 have e:look x (y::l) 0=if y.nm=x then some (0,y) else look x l (0+1):=rfl
 unfold lkF
 rw [e]
 by_cases h:y.nm=x
 ·rw [if_pos h,if_pos h];rfl
 ·rw [if_neg h,if_neg h];exact h2 _
theorem lkF_append (x:ByteArray) (l:List DE) (y:DE):lkF x (l++[y])=(lkF x l).or (if y.nm=x then some y.f else none):=by
 induction l with
 | nil=>rw [List.nil_append,lkF_cons];simp [lkF_nil]
 | cons z l ih =>
  rw [List.cons_append,lkF_cons,lkF_cons,ih]
  by_cases h:z.nm=x
  ·rw [if_pos h,if_pos h];rfl
  ·rw [if_neg h,if_neg h]
theorem lkF_none {x:ByteArray} {l:List DE} (h:lkF x l=none):look x l 0=none:=by
 unfold lkF at h
 cases e:look x l 0 with
 | none=>rfl
 | some r=>rw [e] at h;cases h
theorem lkF_some {x:ByteArray} {l:List DE} {f:Nat} (h:lkF x l=some f):∃ j y,look x l 0=some (j,y)∧y.f=f∧l[j]?=some y∧y.nm=x:=by
 unfold lkF at h
 cases e:look x l 0 with
 | none=>rw [e] at h;cases h
 | some r =>
  rw [e] at h
  obtain ⟨_,h1,h2⟩:=look_spec _ _ _ _ _ e
  exact ⟨r.1,r.2,rfl,by simpa using h,by simpa using h1,h2⟩
theorem lkF_mem {l:List DE} (hn:(l.map DE.nm).Nodup) {y:DE} (hy:y∈l):lkF y.nm l=some y.f:=by
 induction l with
 | nil=>cases hy
 | cons z l ih =>
  obtain ⟨h1,h2⟩:=List.nodup_cons.1 hn
  rw [lkF_cons]
  rcases List.mem_cons.1 hy with rfl | hy
  ·rw [if_pos rfl]
  ·rw [if_neg (fun e=>h1 (List.mem_map.2 ⟨y,hy,e.symm⟩))]
   exact ih h2 hy
theorem lkF_erase:∀ {l:List DE} {j:Nat} {y:DE} (x:ByteArray),(l.map DE.nm).Nodup→l[j]?=some y→lkF x (l.eraseIdx j)=if x=y.nm then none else lkF x l
 | [],j,y,x,_,h=>by simp at h
 | z::l,0,y,x,hn,h=>by
  simp at h;subst h
  obtain ⟨h1,h2⟩:=List.nodup_cons.1 hn
  rw [List.eraseIdx_zero,List.tail_cons,lkF_cons]
  by_cases hx:x=z.nm
  ·rw [if_pos hx]
   cases e:lkF x l with
   | none=>rfl
   | some f =>
    obtain ⟨j,u,_,_,h3,h4⟩:=lkF_some e
    exact absurd (List.mem_map.2 ⟨u,List.mem_of_getElem? h3,by rw [h4,hx]⟩) h1
  ·rw [if_neg hx,if_neg (fun e=>hx e.symm)]
 | z::l,j+1,y,x,hn,h=>by
  obtain ⟨h1,h2⟩:=List.nodup_cons.1 hn
  have hy:l[j]?=some y:=by simpa using h
  rw [List.eraseIdx_cons_succ,lkF_cons,lkF_cons,lkF_erase x h2 hy]
  by_cases hz:z.nm=x
  ·rw [if_pos hz,if_pos hz,if_neg (fun e=>h1 (List.mem_map.2 ⟨y,List.mem_of_getElem? hy,by rw [hz,e]⟩))]
  ·rw [if_neg hz,if_neg hz]
theorem lkF_set:∀ {l:List DE} {j:Nat} {y:DE} (f:Nat) (b:Nat) (x:ByteArray),(l.map DE.nm).Nodup→l[j]?=some y→lkF x (l.set j ⟨y.nm,f,b⟩)=if x=y.nm then some f else lkF x l
 | [],j,y,f,b,x,_,h=>by simp at h
 | z::l,0,y,f,b,x,hn,h=>by
  simp at h;subst h
  rw [List.set_cons_zero,lkF_cons,lkF_cons]
  by_cases hx:x=z.nm
  ·rw [if_pos hx,if_pos hx.symm]
  ·rw [if_neg hx,if_neg (fun e=>hx e.symm),if_neg (fun e=>hx e.symm)]
 | z::l,j+1,y,f,b,x,hn,h=>by
  obtain ⟨h1,h2⟩:=List.nodup_cons.1 hn
  have hy:l[j]?=some y:=by simpa using h
  rw [List.set_cons_succ,lkF_cons,lkF_cons,lkF_set f b x h2 hy]
  by_cases hz:z.nm=x
  ·rw [if_pos hz,if_pos hz,if_neg (fun e=>h1 (List.mem_map.2 ⟨y,List.mem_of_getElem? hy,by rw [hz,e]⟩))]
  ·rw [if_neg hz,if_neg hz]
theorem MapOK.put {l:List DE} {ck:Nat} (h:MapOK l ck) {x:ByteArray} (hx:lkF x l=none) (f:Nat):MapOK (l++[⟨x,f,ck⟩]) (ck+1):=by
 refine ⟨fun y hy=>?_,?_,?_⟩
 ·rcases List.mem_append.1 hy with hy | hy
  ·exact Nat.lt_succ_of_lt (h.born y hy)
  ·obtain rfl:=List.mem_singleton.1 hy;exact Nat.lt_succ_self _
 ·rw [List.pairwise_append]
  exact ⟨h.order,List.pairwise_singleton _ _,fun a ha b hb=>by obtain rfl:=List.mem_singleton.1 hb;exact h.born a ha⟩
 ·rw [List.map_append,List.nodup_append]
  refine ⟨h.nodup,by simp,fun a ha b hb e=>?_⟩
  simp only [List.map_cons,List.map_nil,List.mem_singleton] at hb
  subst hb e
  obtain ⟨y,hy,rfl⟩:=List.mem_map.1 ha
  rw [lkF_mem h.nodup hy] at hx
  cases hx
theorem MapOK.erase {l:List DE} {ck:Nat} (h:MapOK l ck) (j:Nat):MapOK (l.eraseIdx j) ck :=
 ⟨fun y hy=>h.born y (List.mem_of_mem_eraseIdx hy),h.order.sublist (List.eraseIdx_sublist ..),h.nodup.sublist ((List.eraseIdx_sublist ..).map _)⟩
theorem map_set_same {α β:Type} (g:α→β):∀ {l:List α} {j:Nat} {x y:α},l[j]?=some x→g y=g x→(l.set j y).map g=l.map g
 | [],j,x,y,h,_=>by simp at h
 | z::l,0,x,y,h,e=>by simp at h;subst h;simp [e]
 | z::l,j+1,x,y,h,e=>by
  rw [List.set_cons_succ,List.map_cons,List.map_cons,map_set_same g (by simpa using h) e]
theorem MapOK.setv {l:List DE} {ck j:Nat} (h:MapOK l ck) {y:DE} (hy:l[j]?=some y) (f:Nat):MapOK (l.set j ⟨y.nm,f,y.born⟩) ck:=by
 have e1:=map_set_same DE.born hy (y:=⟨y.nm,f,y.born⟩) rfl
 have e2:=map_set_same DE.nm hy (y:=⟨y.nm,f,y.born⟩) rfl
 refine ⟨fun z hz=>?_,?_,by rw [e2];exact h.nodup⟩
 ·have:z.born∈l.map DE.born:=by rw [←e1];exact List.mem_map.2 ⟨z,hz,rfl⟩
  obtain ⟨u,hu,hue⟩:=List.mem_map.1 this
  rw [←hue];exact h.born u hu
 ·have:=h.order
  rw [←List.pairwise_map (f:=DE.born) (R:=(· < ·))] at this ⊢
  rw [e1];exact this
def turnQ (l:List DE) (ck:Nat) (c:Cq):List DE × Nat:=match c.f with
 | some g=>(l++[⟨c.nm,g,ck⟩],ck+1)
 | none=>match look c.nm l 0 with
  | none=>(l,ck)
  | some (j,x)=>if c.to=ByteArray.empty then (l.eraseIdx j,ck) else match look c.to (l.eraseIdx j) 0 with
   | none=>(l.eraseIdx j++[⟨c.to,x.f,ck⟩],ck+1)
   | some (i,y)=>((l.eraseIdx j).set i ⟨c.to,x.f,y.born⟩,ck)
def okQ (l:List DE) (c:Cq):Prop:=match c.f with
 | some _=>lkF c.nm l=none
 | none=>(lkF c.nm l).isSome
def chq (fb:Nat→Nat):Ch→Cq
 | .new nm id=>⟨nm,ByteArray.empty,some (fb id)⟩
 | .gone nm=>⟨nm,ByteArray.empty,none⟩
 | .moved a b=>⟨a,b,none⟩
theorem turnQ_ok {l:List DE} {ck:Nat} (h:MapOK l ck) {c:Cq} (hc:okQ l c):MapOK (turnQ l ck c).1 (turnQ l ck c).2:=by
 unfold turnQ okQ at *
 cases hf:c.f with
 | some g=>rw [hf] at hc;exact h.put hc g
 | none =>
  cases hl:look c.nm l 0 with
  | none=>exact h
  | some r =>
   obtain ⟨j,x⟩:=r
   dsimp only
   split
   ·exact h.erase j
   ·cases hl2:look c.to (l.eraseIdx j) 0 with
    | none=>exact (h.erase j).put (by unfold lkF;rw [hl2];rfl) x.f
    | some r2 =>
     obtain ⟨i,y⟩:=r2
     obtain ⟨_,h1,h2⟩:=look_spec _ _ _ _ _ hl2
     have:=(h.erase j).setv (by simpa using h1) x.f
     rw [h2] at this
     exact this
theorem nameOK_ne {s:ByteArray} (h:nameOK s=true):s≠ByteArray.empty:=by
 rintro rfl
 simp [nameOK] at h
theorem turnQ_lk {l:List DE} {ck:Nat} (h:MapOK l ck) (fb:Nat→Nat) {c:Ch} (hc:okQ l (chq fb c)) (hn:∀ a b,c=.moved a b→nameOK b=true) (x:ByteArray):lkF x (turnQ l ck (chq fb c)).1=turnF (fun y=>lkF y l) fb c x:=by
 cases c with
 | new nm id =>
  show lkF x (l++[⟨nm,fb id,ck⟩])=if x=nm then some (fb id) else lkF x l
  rw [lkF_append]
  have hc':lkF nm l=none:=hc
  by_cases e:x=nm
  ·subst e;rw [hc'];simp
  ·rw [if_neg e,if_neg (fun h=>e (Eq.symm h))]
   cases lkF x l <;> rfl
 | gone nm =>
  have hc':(lkF nm l).isSome:=hc
  cases e:lkF nm l with
  | none=>rw [e] at hc';cases hc'
  | some f =>
   obtain ⟨j,y,h1,h2,h3,h4⟩:=lkF_some e
   show lkF x (match look nm l 0 with
    | none=>(l,ck)
    | some (j,x)=>if (ByteArray.empty:ByteArray)=ByteArray.empty then (l.eraseIdx j,ck) else _).1=if x=nm then none else lkF x l
   rw [h1]
   simp only [if_true]
   rw [lkF_erase x h.nodup h3,h4]
 | moved a b =>
  have hc':(lkF a l).isSome:=hc
  have hb:=nameOK_ne (hn a b rfl)
  cases e:lkF a l with
  | none=>rw [e] at hc';cases hc'
  | some f =>
   obtain ⟨j,y,h1,h2,h3,h4⟩:=lkF_some e
   have hE:=lkF_erase (l:=l) (j:=j) (y:=y)
   show lkF x (match look a l 0 with
    | none=>(l,ck)
    | some (j,x)=>if b=ByteArray.empty then (l.eraseIdx j,ck) else match look b (l.eraseIdx j) 0 with
     | none=>(l.eraseIdx j++[(⟨b,x.f,ck⟩:DE)],ck+1)
     | some (i,y)=>((l.eraseIdx j).set i (⟨b,x.f,y.born⟩:DE),ck)).1=if x=b then lkF a l else if x=a then none else lkF x l
   rw [h1]
   simp only [if_neg hb]
   rw [e]
   cases hl2:look b (l.eraseIdx j) 0 with
   | none =>
    have hb0:lkF b (l.eraseIdx j)=none:=by unfold lkF;rw [hl2];rfl
    simp only
    rw [lkF_append]
    by_cases hx:x=b
    ·subst hx;rw [hb0,if_pos rfl,if_pos rfl,h2];rfl
    ·rw [if_neg hx,if_neg (fun e=>hx (Eq.symm e)),hE x h.nodup h3,h4]
     by_cases hxa:x=a
     ·rw [if_pos hxa];rfl
     ·rw [if_neg hxa];cases lkF x l <;> rfl
   | some r2 =>
    obtain ⟨i,z⟩:=r2
    obtain ⟨_,h5,h6⟩:=look_spec _ _ _ _ _ hl2
    have hS:=lkF_set (y:=z) y.f z.born x (h.erase j).nodup (by simpa using h5)
    rw [h6] at hS
    simp only
    rw [hS,h2,hE x h.nodup h3,h4]
end
section
open Go.RowKit
def Cq.arr (c:Cq):Array Value:=#[.string c.nm,.string c.to,.pointer (c.f.map fun f=>⟨f,0,none⟩)]
set_option maxHeartbeats 1000000 in
set_option maxRecDepth 100000 in
theorem dirturn_gone {w:World} {M:Nat} {nm:ByteArray} {l:List DE} {clock:Nat} {j:Nat} {x:DE} (hM:w.heap[M]?=some (.map (l.map DE.ent).toArray clock)) (hl:look nm l 0=some (j,x)) :
 Calls Tryz.prog 60 #[.map (some M),.agg #[.string nm,.string ByteArray.empty,.pointer none]] w fun e w'=>e=.returned (.tuple #[])∧MapTo (w.alloc (.cells #[.string nm,.string ByteArray.empty,.pointer none] 108)) w' M ((l.eraseIdx j).map DE.ent).toArray clock:=by
 have hlt:=(Array.getElem?_eq_some_iff.1 hM).1
 have hM1:(w.alloc (.cells #[.string nm,.string ByteArray.empty,.pointer none] 108)).heap[M]?=some (.map (l.map DE.ent).toArray clock):=(Below.heap_alloc _ _ _ hlt).trans hM
 go_enter Tryz.func60,Tryz.ntmps60
 go_wp2_with (first
  | (at_lookup;refine wpList_look1 rfl _ _ rfl rfl rfl hM1 hl ?_)
  | (at_delete;refine wpList_del rfl _ _ rfl rfl rfl hM1 hl ?_;intro w9 hm9;have q1:w9.cell? ⟨w.heap.size,1,none⟩=some (.string ByteArray.empty):=(hm9.cell (by omega)).trans ((Blk.new w _ _).cell 1);have q2:w9.cell? ⟨w.heap.size,2,none⟩=some (.pointer none):=(hm9.cell (by omega)).trans ((Blk.new w _ _).cell 2)))
 go_end0
 exact ⟨rfl,hm9⟩
set_option maxHeartbeats 1000000 in
set_option maxRecDepth 100000 in
theorem dirturn_moved_new {w:World} {M:Nat} {nm to:ByteArray} {l:List DE} {clock:Nat} {j:Nat} {x:DE} (hM:w.heap[M]?=some (.map (l.map DE.ent).toArray clock)) (hl:look nm l 0=some (j,x)) (hto:to≠ByteArray.empty) (hl2:look to (l.eraseIdx j) 0=none) :
 Calls Tryz.prog 60 #[.map (some M),.agg #[.string nm,.string to,.pointer none]] w fun e w'=>e=.returned (.tuple #[])∧MapTo (w.alloc (.cells #[.string nm,.string to,.pointer none] 108)) w' M ((l.eraseIdx j++[(⟨to,x.f,clock⟩:DE)]).map DE.ent).toArray (clock+1):=by
 have hlt:=(Array.getElem?_eq_some_iff.1 hM).1
 have hM1:(w.alloc (.cells #[.string nm,.string to,.pointer none] 108)).heap[M]?=some (.map (l.map DE.ent).toArray clock):=(Below.heap_alloc _ _ _ hlt).trans hM
 have ht:(to==ByteArray.empty)=false:=by rw [ba_beq];exact decide_eq_false hto
 have ht':(!to.toList.isEmpty)=true:=by cases e:to.toList.isEmpty with | false=>rfl | true=>exact absurd ((toList_nil_iff_emptyBytes to).1 (List.isEmpty_iff.1 e)) hto
 go_enter Tryz.func60,Tryz.ntmps60
 go_wp2_with (first
  | (at_lookup;refine wpList_look1 rfl _ _ rfl rfl rfl hM1 hl ?_)
  | (at_mapUpdate;refine wpList_put (y:=⟨to,x.f,clock⟩) rfl _ _ _ rfl rfl rfl rfl hm9.map hl2 rfl ?_;intro w8 hm8)
  | (at_delete;refine wpList_del rfl _ _ rfl rfl rfl hM1 hl ?_;intro w9 hm9;have q1:w9.cell? ⟨w.heap.size,1,none⟩=some (.string to):=(hm9.cell (by omega)).trans ((Blk.new w _ _).cell 1);have q2:w9.cell? ⟨w.heap.size,2,none⟩=some (.pointer none):=(hm9.cell (by omega)).trans ((Blk.new w _ _).cell 2)))
 go_end0
 exact ⟨rfl,⟨hm8.map,hm8.os.trans hm9.os,hm8.tape.trans hm9.tape,hm8.output.trans hm9.output,hm8.size.trans hm9.size,fun k hk=>(hm8.block k hk).trans (hm9.block k hk)⟩⟩
set_option maxHeartbeats 1000000 in
set_option maxRecDepth 100000 in
theorem dirturn_moved_on {w:World} {M:Nat} {nm to:ByteArray} {l:List DE} {clock:Nat} {j i:Nat} {x y:DE} (hM:w.heap[M]?=some (.map (l.map DE.ent).toArray clock)) (hl:look nm l 0=some (j,x)) (hto:to≠ByteArray.empty) (hl2:look to (l.eraseIdx j) 0=some (i,y)) :
 Calls Tryz.prog 60 #[.map (some M),.agg #[.string nm,.string to,.pointer none]] w fun e w'=>e=.returned (.tuple #[])∧MapTo (w.alloc (.cells #[.string nm,.string to,.pointer none] 108)) w' M (((l.eraseIdx j).set i ⟨to,x.f,y.born⟩).map DE.ent).toArray clock:=by
 have hlt:=(Array.getElem?_eq_some_iff.1 hM).1
 have hM1:(w.alloc (.cells #[.string nm,.string to,.pointer none] 108)).heap[M]?=some (.map (l.map DE.ent).toArray clock):=(Below.heap_alloc _ _ _ hlt).trans hM
 have ht:(to==ByteArray.empty)=false:=by rw [ba_beq];exact decide_eq_false hto
 have ht':(!to.toList.isEmpty)=true:=by cases e:to.toList.isEmpty with | false=>rfl | true=>exact absurd ((toList_nil_iff_emptyBytes to).1 (List.isEmpty_iff.1 e)) hto
 go_enter Tryz.func60,Tryz.ntmps60
 go_wp2_with (first
  | (at_lookup;refine wpList_look1 rfl _ _ rfl rfl rfl hM1 hl ?_)
  | (at_mapUpdate;refine wpList_set (y:=⟨to,x.f,y.born⟩) rfl _ _ _ rfl rfl rfl rfl hm9.map hl2 rfl ?_;intro w8 hm8)
  | (at_delete;refine wpList_del rfl _ _ rfl rfl rfl hM1 hl ?_;intro w9 hm9;have q1:w9.cell? ⟨w.heap.size,1,none⟩=some (.string to):=(hm9.cell (by omega)).trans ((Blk.new w _ _).cell 1);have q2:w9.cell? ⟨w.heap.size,2,none⟩=some (.pointer none):=(hm9.cell (by omega)).trans ((Blk.new w _ _).cell 2)))
 go_end0
 exact ⟨rfl,⟨hm8.map,hm8.os.trans hm9.os,hm8.tape.trans hm9.tape,hm8.output.trans hm9.output,hm8.size.trans hm9.size,fun k hk=>(hm8.block k hk).trans (hm9.block k hk)⟩⟩
theorem dirturn_any {w:World} {M:Nat} {l:List DE} {clock:Nat} (hM:w.heap[M]?=some (.map (l.map DE.ent).toArray clock)) {c:Cq} (hc:okQ l c) (hg:c.f=none∨c.to=ByteArray.empty) :
 Calls Tryz.prog 60 #[.map (some M),.agg c.arr] w fun e w'=>e=.returned (.tuple #[])∧MapTo (w.alloc (.cells c.arr 108)) w' M ((turnQ l clock c).1.map DE.ent).toArray (turnQ l clock c).2:=by
 obtain ⟨nm,to,f⟩:=c
 unfold okQ at hc
 unfold turnQ Cq.arr
 cases f with
 | some g=>exact dirturn_new hM (lkF_none hc)
 | none =>
  have hc':(lkF nm l).isSome:=hc
  cases e:lkF nm l with
  | none=>rw [e] at hc';cases hc'
  | some f =>
   obtain ⟨j,x,h1,h2,h3,h4⟩:=lkF_some e
   simp only [h1]
   by_cases ht:to=ByteArray.empty
   ·rw [if_pos ht]
    subst ht
    exact dirturn_gone hM h1
   ·rw [if_neg ht]
    cases hl2:look to (l.eraseIdx j) 0 with
    | none=>exact dirturn_moved_new hM h1 ht hl2
    | some r=>exact dirturn_moved_on hM h1 ht hl2
end
section
open Go.RowKit
section
variable {X X':Nat→Prop} {w w2 w3:World} {db M1 M2:Nat} {v3 v4:Value} {q:DQ}
theorem DiskV.mapTo2 (h:DiskV X w db M1 M2 v3 v4 q) {l:List DE} {ck:Nat} (hm:MapTo w w2 M2 (l.map DE.ent).toArray ck) (ho:MapOK l ck):DiskV X w2 db M1 M2 v3 v4 {q with now:=l,nck:=ck} :=
 h.cells (fun _ h=>h) (q':={q with now:=l,nck:=ck}) ((hm.block db (Ne.symm h.m2_ne)).trans h.blk) ((hm.block M1 h.ne).trans h.m1) hm.map h.ne h.inX1 h.inX2 h.ok1 ho
  (h.chs.keep (fun k cs hx hk h3=>(hm.block k (map_row_ne h.m2 h.chs hk)).trans h3) (fun _ h=>h)) (h.wrs.keep (fun k cs hx hk h3=>(hm.block k (map_row_ne h.m2 h.wrs hk)).trans h3) (fun _ h=>h))
theorem rows_apart {v v':Value} {e e' size n n':Nat} {xs xs':List Value} (h:RowX X w e size v n xs) (h':RowX X w e' size v' n' xs') (he:e≠e') {k:Nat} (hk:v.ownBlock=some k):some k≠v'.ownBlock:=by
 intro e2
 obtain ⟨c1,h1⟩:=h.block hk
 obtain ⟨c2,h2⟩:=h'.block e2.symm
 rw [h1] at h2
 cases h2
 exact he rfl
theorem blk_apart {v':Value} {t e' size n':Nat} {cs:Array Value} {xs':List Value} {k:Nat} (h:Blk w k t cs) (h':RowX X w e' size v' n' xs') (he:t≠e'):some k≠v'.ownBlock:=fun e2=>blk_row_ne h h' e2.symm he rfl
theorem map_apart {v':Value} {e' size n' ck:Nat} {es:Array MapEntry} {xs':List Value} {k:Nat} (h:w.heap[k]?=some (.map es ck)) (h':RowX X w e' size v' n' xs'):some k≠v'.ownBlock:=fun e2=>map_row_ne h h' e2.symm rfl
theorem row_set {e size n:Nat} {v u:Value} {xs:List Value} {t:TypeId} {cs:Array Value} {o:Nat} (hb:Blk w db t cs) (he:t≠e) (hr:RowX X w e size v n xs):RowX X (w.setCell ⟨db,o,none⟩ u) e size v n xs :=
 hr.keep (fun k cs hx hk h3=>(Below.heap_setCell _ _ _ _ (blk_row_ne hb hr hk he)).trans h3) (fun _ h=>h)
theorem DiskV.chs3 (h:DiskV X w db M1 M2 v3 v4 q) (hX:∀ k,X k→X' k) {v3':Value} {l:List Cq} (hg:w.grownBy w3 v3.ownBlock) (hr:RowX X' w3 108 3 v3' l.length (cqcells l)):DiskV X' (w3.setCell ⟨db,3,none⟩ v3') db M1 M2 v3' v4 {q with chs:=l}:=by
 have hb3:Blk w3 db 66 _:=(hg.block db h.blk.lt (blk_apart h.blk h.chs (by decide))).trans h.blk
 have hm1:=(hg.block M1 (Array.getElem?_eq_some_iff.1 h.m1).1 (map_apart h.m1 h.chs)).trans h.m1
 have hm2:=(hg.block M2 (Array.getElem?_eq_some_iff.1 h.m2).1 (map_apart h.m2 h.chs)).trans h.m2
 have hw3:RowX X' w3 106 3 v4 q.wrs.length (wcells q.wrs):=h.wrs.keep (fun k cs hx hk h3=>(hg.block k (h.wrs.lt hk) (rows_apart h.wrs h.chs (by decide) hk)).trans h3) hX
 have hoth:∀ k,k≠db→(w3.setCell ⟨db,3,none⟩ v3').heap[k]?=w3.heap[k]?:=fun k hk=>Below.heap_setCell _ _ _ _ hk
 exact h.cells hX (q':={q with chs:=l}) (hb3.set_ 3 v3') ((hoth _ h.m1_ne).trans hm1) ((hoth _ h.m2_ne).trans hm2) h.ne (hX _ h.inX1) (hX _ h.inX2) h.ok1 h.ok2 (row_set hb3 (by decide) hr) (row_set hb3 (by decide) hw3)
theorem DiskV.wrs4 (h:DiskV X w db M1 M2 v3 v4 q) (hX:∀ k,X k→X' k) {v4':Value} {l:List Wr} (hg:w.grownBy w3 v4.ownBlock) (hr:RowX X' w3 106 3 v4' l.length (wcells l)):DiskV X' (w3.setCell ⟨db,4,none⟩ v4') db M1 M2 v3 v4' {q with wrs:=l}:=by
 have hb3:Blk w3 db 66 _:=(hg.block db h.blk.lt (blk_apart h.blk h.wrs (by decide))).trans h.blk
 have hm1:=(hg.block M1 (Array.getElem?_eq_some_iff.1 h.m1).1 (map_apart h.m1 h.wrs)).trans h.m1
 have hm2:=(hg.block M2 (Array.getElem?_eq_some_iff.1 h.m2).1 (map_apart h.m2 h.wrs)).trans h.m2
 have hw3:RowX X' w3 108 3 v3 q.chs.length (cqcells q.chs):=h.chs.keep (fun k cs hx hk h3=>(hg.block k (h.chs.lt hk) (rows_apart h.chs h.wrs (by decide) hk)).trans h3) hX
 have hoth:∀ k,k≠db→(w3.setCell ⟨db,4,none⟩ v4').heap[k]?=w3.heap[k]?:=fun k hk=>Below.heap_setCell _ _ _ _ hk
 exact h.cells hX (q':={q with wrs:=l}) (hb3.set_ 4 v4') ((hoth _ h.m1_ne).trans hm1) ((hoth _ h.m2_ne).trans hm2) h.ne (hX _ h.inX1) (hX _ h.inX2) h.ok1 h.ok2 (row_set hb3 (by decide) hw3) (row_set hb3 (by decide) hr)
theorem same_grown {T:Nat→Prop} {e size n:Nat} {v:Value} {xs:List Value} (hr:RowX X w e size v n xs) (hg:w.grownBy w3 v.ownBlock) (he:¬ T e):Same T X w w3:=fun k cs t ht hx hk=>(hg.block k (Array.getElem?_eq_some_iff.1 hk).1 (fun e2=>by
 obtain ⟨c2,h2⟩:=hr.block e2.symm
 rw [hk] at h2
 cases h2
 exact he ht)).trans hk
theorem same_set {T:Nat→Prop} {t:TypeId} {cs:Array Value} {o:Nat} {u:Value} (hb:Blk w db t cs) (he:¬ T t):Same T X w (w.setCell ⟨db,o,none⟩ u):=fun k cs t ht hx hk=>(Below.heap_setCell _ _ _ _ (fun e=>by
 have e':k=db:=e
 subst e'
 unfold Blk at hb
 rw [hk] at hb
 cases hb
 exact he ht)).trans hk
theorem same_map {T:Nat→Prop} {M ck:Nat} {es es':Array MapEntry} {ck':Nat} (hM:w.heap[M]?=some (.map es ck)) (hm:MapTo w w2 M es' ck'):Same T X w w2:=fun k cs t ht hx hk=>(hm.block k (fun e=>by subst e;rw [hM] at hk;cases hk)).trans hk
end
theorem cq_one {c:Cq}:∀ u∈c.cells,u.oneCell'=true:=by
 intro u hu
 simp only [Cq.cells,List.mem_cons,List.not_mem_nil,or_false] at hu
 rcases hu with rfl | rfl | rfl <;> rfl
set_option maxHeartbeats 4000000 in
set_option maxRecDepth 100000 in
theorem turn_walk {w:World} {db M m cc:Nat} {room after code:Int} {armed:Bool} {sf wrs:Value} {Ac:Option Addr} {l l':List DE} {ck ck':Nat} {xs:List Value} (c:Cq)
 (hb:Blk w db 66 (dcells room sf (.map (some M)) (.slice Ac m cc) wrs armed after code)) (hM:w.heap[M]?=some (.map (l.map DE.ent).toArray ck))
 (hT:∀ W:World,W.heap[M]?=some (.map (l.map DE.ent).toArray ck)→Calls Tryz.prog 60 #[.map (some M),.agg c.arr] W fun e w'=>e=.returned (.tuple #[])∧MapTo (W.alloc (.cells c.arr 108)) w' M (l'.map DE.ent).toArray ck')
 (hown:w.ownsRow 0 108 3 (.slice Ac m cc) m xs) (hm:m≤1000) :
 Calls Tryz.prog 72 #[.pointer (some ⟨db,0,none⟩),.agg c.arr] w fun e w'=>e=.returned (.tuple #[]) ∧
  ∃ w2 w3 A2 c2,MapTo ((w.alloc (.cells c.arr 108)).drew.alloc (.cells c.arr 108)) w2 M (l'.map DE.ent).toArray ck' ∧
   w3.ownsRow 0 108 3 (.slice A2 (m+1) c2) (m+1) (xs++c.cells)∧(w2.drew.alloc (.cells c.arr 108)).grownBy w3 (.slice Ac m cc:Value).ownBlock∧((.slice A2 (m+1) c2:Value).ownBlock=(.slice Ac m cc:Value).ownBlock∨(.slice A2 (m+1) c2:Value).ownBlock=some (w2.heap.size+1))∧w'=w3.setCell ⟨db,3,none⟩ (.slice A2 (m+1) c2):=by
 obtain ⟨i8,hi8,hz8,hz8',hz8''⟩:=info_parts Tryz.info108
 obtain ⟨nm,to,f⟩:=c
 obtain ⟨fv,hfv⟩:∃ fv:Option Addr,(f.map fun f=>(⟨f,0,none⟩:Addr))=fv:=⟨_,rfl⟩
 unfold Cq.arr at hT ⊢
 unfold Cq.cells
 have hone:=cq_one (c:=⟨nm,to,f⟩)
 unfold Cq.cells at hone
 simp only [hfv] at hT hone ⊢
 clear hfv
 have hlt:=(Array.getElem?_eq_some_iff.1 hM).1
 have hdl:=hb.lt
 have hne:db≠M:=fun e=>by subst e;unfold Blk at hb;rw [hM] at hb;cases hb
 have bx:Blk (w.alloc (.cells #[.string nm,.string to,.pointer fv] 108)) w.heap.size 108 #[.string nm,.string to,.pointer fv]:=Blk.new w 108 _
 have b1:=hb.alloc (.cells #[.string nm,.string to,.pointer fv] 108)
 have hM1:=(Below.heap_alloc w (.cells #[.string nm,.string to,.pointer fv] 108) M hlt).trans hM
 have o1:=hown.alloc (.cells #[.string nm,.string to,.pointer fv] 108)
 have q2:(w.alloc (.cells #[.string nm,.string to,.pointer fv] 108)).cell? ⟨db,2,none⟩=some (.map (some M)):=b1.cell 2
 have x0:=bx.cell 0
 have x1:=bx.cell 1
 have x2:=bx.cell 2
 go_enter Tryz.func72,Tryz.ntmps72
 go_wp2_with fail
 refine wp_region_tail 5 (by kernel_rfl) (by kernel_rfl) ?_
 repeat still_step
 refine wpStill_nil ?_
 go_wp2_with (go_at_call 60;refine (hT (w.alloc (.cells #[.string nm,.string to,.pointer fv] 108)).drew hM1).mono ?_;rintro e w2 ⟨rfl,hm2⟩)
 have b2:Blk w2 db 66 (dcells room sf (.map (some M)) (.slice Ac m cc) wrs armed after code):=(hm2.block db hne).trans (Blk.alloc (show Blk (w.alloc (.cells #[.string nm,.string to,.pointer fv] 108)).drew db 66 _ from b1) _)
 have bx2:Blk w2 w.heap.size 108 #[.string nm,.string to,.pointer fv]:=(hm2.block _ (by omega)).trans (Blk.alloc (show Blk (w.alloc (.cells #[.string nm,.string to,.pointer fv] 108)).drew w.heap.size 108 _ from bx) _)
 have o2:w2.ownsRow 0 108 3 (.slice Ac m cc) m xs:=by
  have o3:((w.alloc (.cells #[.string nm,.string to,.pointer fv] 108)).drew.alloc (.cells #[.string nm,.string to,.pointer fv] 108)).ownsRow 0 108 3 (.slice Ac m cc) m xs:=(show (w.alloc (.cells #[.string nm,.string to,.pointer fv] 108)).drew.ownsRow 0 108 3 (.slice Ac m cc) m xs from o1).alloc _
  refine ⟨o3.1,o3.2.imp id ?_⟩
  rintro ⟨g',cap,cur',e1,e2,e3,e4⟩
  refine ⟨g',cap,cur',e1,e2,(hm2.block g' (fun e=>?_)).trans e3,e4⟩
  subst e
  have h9:=(Below.heap_alloc (w.alloc (.cells #[.string nm,.string to,.pointer fv] 108)).drew (.cells #[.string nm,.string to,.pointer fv] 108) g' (by simp;omega)).trans hM1
  rw [h9] at e3
  cases e3
 have r3:w2.cell? ⟨db,3,none⟩=some (.slice Ac m cc):=b2.cell 3
 have r3':(w2.alloc (.cells #[.string nm,.string to,.pointer fv] 108)).cell? ⟨db,3,none⟩=some (.slice Ac m cc):=(b2.alloc _).cell 3
 have y0:=bx2.cell 0
 have y1:=bx2.cell 1
 have y2:=bx2.cell 2
 clear x0 x1 x2 q2
 go_region_law (first
  | (refine step_append_any _ (by rfl) (.tmp 14) (.tmp 16) 63 (by rfl) 0 108 i8 _ 3 40 Tryz.underlying63 hi8 hz8 hz8' hz8'' rfl (by omega) (.slice Ac m cc) m xs (by rfl) ((show w2.drew.ownsRow 0 108 3 (.slice Ac m cc) m xs from o2).alloc _) _ _ 1 1 [.string nm,.string to,.pointer fv] (by rfl) (reads_three (Blk.new w2.drew 108 _)) hone (by simp only [maxLen];omega) (by omega) (by simp) ?_;intro v3 w3 ho3 hg3 hl3;obtain ⟨A3,c3,rfl⟩:=own_formN ho3;have bd3:Blk w3 db 66 (dcells room sf (.map (some M)) (.slice Ac m cc) wrs armed after code):=blk_otherN ((show Blk w2.drew db 66 _ from b2).alloc _) hg3 ((show w2.drew.ownsRow 0 108 3 (.slice Ac m cc) m xs from o2).alloc _) (by decide);have k4:w3.cell? ⟨db,3,none⟩=some (.slice Ac m cc):=bd3.cell 3;have l4:=bd3.frozen 3))
 all_goals
  go_wp2
  go_end0
  exact ⟨rfl,_,_,_,_,hm2,ho3,hg3,by simpa using hl3,rfl⟩
end
section
open Go.RowKit
def More (X:Nat→Prop) (w:World):Nat→Prop:=fun k=>X k∨w.heap.size≤k
section
variable {X:Nat→Prop} {w:World} {db M1 M2:Nat} {v3 v4:Value} {q:DQ}
theorem turn_any (h:DiskV X w db M1 M2 v3 v4 q) (c:Cq) (hc:okQ q.now c) (hg:c.f=none∨c.to=ByteArray.empty) (hm:q.chs.length≤1000) :
 Calls Tryz.prog 72 #[.pointer (some ⟨db,0,none⟩),.agg c.arr] w fun e w'=>e=.returned (.tuple #[]) ∧
  (∃ v3',DiskV (More X w) w' db M1 M2 v3' v4 {q with now:=(turnQ q.now q.nck c).1,nck:=(turnQ q.now q.nck c).2,chs:=q.chs++[c]})∧Same FT X w w'∧Fr X w w':=by
 obtain ⟨Ac,cc,rfl⟩:=h.chs.form
 refine (turn_walk c h.blk h.m2 (fun W hW=>dirturn_any hW hc hg) h.chs.1 hm).mono ?_
 rintro e w' ⟨rfl,w2,w3,A2,c2,hm2,ho3,hg3,hl3,rfl⟩
 have hA:=(h.below ((Below.refl _ w).alloc (Nat.le_refl _) (.cells c.arr 108)))
 have hA2:DiskV X (w.alloc (.cells c.arr 108)).drew db M1 M2 _ v4 q:=hA.keep (fun _ h=>h) Same.refl (fun _ _ _ _ h=>h)
 have hA3:=hA2.below ((Below.refl _ _).alloc (Nat.le_refl _) (.cells c.arr 108))
 have h2:=hA3.mapTo2 hm2 (turnQ_ok h.ok2 hc)
 have h3:DiskV X w2.drew db M1 M2 _ v4 _:=h2.keep (fun _ h=>h) Same.refl (fun _ _ _ _ h=>h)
 have h4:=h3.below ((Below.refl _ w2.drew).alloc (Nat.le_refl _) (.cells c.arr 108))
 have hs2:w2.heap.size=w.heap.size+2:=by rw [hm2.size];simp
 have hr:RowX (More X w) w3 108 3 (.slice A2 (q.chs.length+1) c2) (q.chs++[c]).length (cqcells (q.chs++[c])):=by
  refine ⟨?_,fun k hk=>?_⟩
  ·have e1:cqcells (q.chs++[c])=cqcells q.chs++c.cells:=by rw [cqcells_append];simp [cqcells]
   rw [e1,List.length_append]
   exact ho3
  ·rcases hl3 with hl | hl
   ·rw [hl] at hk;exact .inl (h.chs.2 k hk)
   ·rw [hl] at hk;cases hk;exact .inr (by omega)
 have h5:=h4.chs3 (X':=More X w) (fun k hk=>.inl hk) hg3 hr
 have f1:Fr X w ((w.alloc (.cells c.arr 108)).drew.alloc (.cells c.arr 108)):=(((Fr.refl X w).alloc _).drew).alloc _
 have f2:=hm2.frX f1 (.inr h.inX2)
 have f3:Fr X w w3:=(f2.drew.alloc (.cells c.arr 108)).grown hg3 (fun k hk=>.inr (h.chs.2 k hk))
 refine ⟨rfl,⟨_,h5⟩,?_,f3.setCell (p:=⟨db,3,none⟩) (.inr h.inX) _⟩
 have s0:Same FT X w (w.alloc (.cells c.arr 108)):=Same.of_below ((Below.refl _ w).alloc (Nat.le_refl _) _)
 have s0':Same FT X (w.alloc (.cells c.arr 108)).drew ((w.alloc (.cells c.arr 108)).drew.alloc (.cells c.arr 108)):=Same.of_below ((Below.refl _ _).alloc (Nat.le_refl _) _)
 have s1:Same FT X w ((w.alloc (.cells c.arr 108)).drew.alloc (.cells c.arr 108)):=s0.trans s0'
 have s2:Same FT X _ w2:=same_map hA3.m2 hm2
 have s3:Same FT X w2.drew (w2.drew.alloc (.cells c.arr 108)):=Same.of_below ((Below.refl _ w2.drew).alloc (Nat.le_refl _) _)
 have s4:Same FT X _ w3:=same_grown h4.chs hg3 (by rintro (e | e) <;> cases e)
 have hb3:Blk w3 db 66 _:=(hg3.block db h4.blk.lt (blk_apart h4.blk h4.chs (by decide))).trans h4.blk
 exact (((s1.trans s2).trans s3).trans s4).trans (same_set hb3 (by rintro (e | e) <;> cases e))
end
end
section
open Go.RowKit
theorem okC_split (c:UInt8):okC c=((decide (97≤(c.toNat:Int)) && decide ((c.toNat:Int)≤122)) || ((decide (48≤(c.toNat:Int)) && decide ((c.toNat:Int)≤57)) || ((c.toNat:Int)==46))):=by
 unfold okC
 have e1:decide (97≤(c.toNat:Int))=decide (97≤c.toNat):=decide_eq_decide.2 (by omega)
 have e2:decide ((c.toNat:Int)≤122)=decide (c.toNat≤122):=decide_eq_decide.2 (by omega)
 have e3:decide (48≤(c.toNat:Int))=decide (48≤c.toNat):=decide_eq_decide.2 (by omega)
 have e4:decide ((c.toNat:Int)≤57)=decide (c.toNat≤57):=decide_eq_decide.2 (by omega)
 have e5:((c.toNat:Int)==46)=decide (c.toNat=46):=by
  rw [Bool.eq_iff_iff];simp;omega
 rw [e1,e2,e3,e4,e5,Bool.or_assoc]
def NmRel (s:ByteArray) (W:World) (i:Value) (wr:World):Prop:=W=wr∧∃ k:Nat,k≤s.size∧i=.int .i64 k∧∀ j c,j<k→s.data.toList[j]?=some c→okC c=true
set_option maxHeartbeats 2000000 in
set_option maxRecDepth 100000 in
theorem isName_any (s:ByteArray) (hs:s.size≤1000000) (w:World):Calls Tryz.prog 71 #[.string s] w fun e w'=>e=.returned (.bool (nameOK s))∧w=w':=by
 go_enter Tryz.func71,Tryz.ntmps71
 go_wp2
 go_loopw [7] (fun i wr=>NmRel s w i wr) (fun i _=>s.size-(intOf i).toNat)
 case atStart=>exact ⟨rfl,0,Nat.zero_le _,rfl,fun j c hj=>by omega⟩
 case round =>
  obtain ⟨rfl,k,hk,rfl,hok⟩:=hrel
  by_cases hlt:k<s.size
  ·have d1:decide (k<s.size)=true:=by simpa using hlt
   obtain ⟨c,hc⟩:∃ c,s.data.toList[k]?=some c:=⟨_,List.getElem?_eq_getElem (by simpa using hlt)⟩
   have hc2:s[k]?=some c:=by
    have:s.data[k]?=some c:=by simpa using hc
    rw [←this];rfl
   have i0:(0:Int)≤(k:Int):=by omega
   have i1:(k:Int)<(s.size:Int):=by omega
   have HOK:=Lib.hid hok
   clear hok
   have hg:s[k]'hlt=c:=by
    have:=List.getElem?_eq_some_iff.1 hc
    obtain ⟨h1,h2⟩:=this
    rw [←h2];rfl
   have hsp:=okC_split c
   have HC:=Lib.hid hc
   clear hc
   obtain ⟨m,hm⟩:∃ m,c.toNat=m:=⟨_,rfl⟩
   have hgm:(s[k]'hlt).toNat=m:=by rw [hg,hm]
   rw [hm] at hsp
   have HSP:=Lib.hid hsp
   clear hsp hg hm hc2
   have hbad:okC c=false→nameOK s=false:=fun h=>by
    unfold nameOK
    have:s.data.toList.all okC=false:=by
     cases e:s.data.toList.all okC with
     | false=>rfl
     | true =>
      rw [List.all_eq_true] at e
      rw [e c (List.mem_of_getElem? HC.out)] at h
      cases h
    rw [this,Bool.and_false]
   have HB:=Lib.hid hbad
   clear hbad
   have hgood:okC c=true→∀ j d,j<k+1→s.data.toList[j]?=some d→okC d=true:=fun h j d hj hd=>by
    by_cases e:j=k
    ·subst e;rw [HC.out] at hd;cases hd;exact h
    ·exact HOK.out j d (by omega) hd
   have HG:=Lib.hid hgood
   clear hgood
   cases e46:((m:Int)==46) with
   | true =>
    have p46:(m:Int)=46:=by simpa using e46
    go_wp2
    all_goals first
     | (refine ⟨⟨rfl,k+1,by omega,by go_num,HG.out (by rw [HSP.out];simp;omega)⟩,?_⟩;simp [intOf];omega)
     | (go_ret;exact ⟨by rw [HB.out (by rw [HSP.out];simp;omega)];rfl,rfl⟩)
   | false =>
    have p46:(m:Int)≠46:=by simpa using e46
    go_wp2
    all_goals first
     | (refine ⟨⟨rfl,k+1,by omega,by go_num,HG.out (by rw [HSP.out];simp;omega)⟩,?_⟩;simp [intOf];omega)
     | (go_ret;exact ⟨by rw [HB.out (by rw [HSP.out];simp;omega)];rfl,rfl⟩)
  ·have d1:decide (k<s.size)=false:=by simpa using hlt
   obtain rfl:k=s.size:=by omega
   have hall:s.data.toList.all okC=true:=by
    rw [List.all_eq_true]
    intro c hc
    obtain ⟨j,hj,he⟩:=List.getElem_of_mem hc
    exact hok j c (by simpa using hj) (by rw [List.getElem?_eq_getElem hj,he])
   have hN:nameOK s=(decide (1≤s.size) && decide (s.size≤16)):=by unfold nameOK;rw [hall,Bool.and_true]
   have HN:=Lib.hid hN
   clear hN hall hok
   go_wp2
   all_goals
    go_ret
    refine ⟨?_,rfl⟩
    rw [HN.out]
    first
     | (show Ending.returned (Value.bool (decide ((s.size:Int)≤16)))=_;refine congrArg Ending.returned (congrArg Value.bool ?_);rw [Bool.eq_iff_iff];simp;omega)
     | (show Ending.returned (Value.bool false)=_;refine congrArg Ending.returned (congrArg Value.bool ?_);symm;simp;omega)
end
section
open Go.RowKit
def opCreate:ByteArray:=⟨#[99,114,101,97,116,101]⟩
def createC (q:DQ) (nm:ByteArray):Int :=
 if (failQ q).1≠0 then (failQ q).1 else if nameOK nm=false then 2 else if (lkF nm q.now).isSome then 40 else if 8≤q.now.length then 6 else 0
structure Left (X:Nat→Prop) (w:World) (db M1:Nat) (fs:List Nat) (C:Nat→Bool→List ByteArray) (q:DQ) (w':World):Prop where
 disk:∃ M2 v3 v4,DiskV (More X w) w' db M1 M2 v3 v4 q
 files:∃ V,FilesV (More X w) w' fs V C
 fr:Fr X w w'
def Ends (w:World) (op nm:ByteArray) (k:Int) (e:Ending) (w':World):Prop:=∃ v,e=.returned v∧ErrAt w.heap.size w' op nm k v
section
variable {X:Nat→Prop} {w w1 w2:World} {db M1 M2:Nat} {v3 v4:Value} {q q':DQ} {fs:List Nat} {V:Nat→Bool→Value} {C:Nat→Bool→List ByteArray}
theorem more_left {k:Nat} (h:X k):More X w k:=.inl h
theorem Near.fr' (h:Near X db w w1) (hx:X db):Fr X w w1:=h.fr.mono (fun k _ e=>by rw [e];exact hx)
theorem left_near (hD:DiskV X w1 db M1 M2 v3 v4 q) (hF:FilesV X w fs V C) (hN:Near X db w w1) (hb:Below w1.heap.size w1 w2):Left X w db M1 fs C q w2 :=
 ⟨⟨M2,v3,v4,(hD.below hb).keep (fun _=>more_left) Same.refl (fun _ _ _ _ h=>h)⟩,⟨V,hF.keep (fun _=>more_left) (hN.files.trans (Same.of_below hb))⟩,(hN.fr' hD.inX).trans (Fr.of_below hb)⟩
theorem failQ_chs (q:DQ):(failQ q).2.chs=q.chs:=by unfold failQ;split <;> (try split) <;> rfl
theorem failQ_nck (q:DQ):(failQ q).2.nck=q.nck:=by unfold failQ;split <;> (try split) <;> rfl
theorem failQ_wrs (q:DQ):(failQ q).2.wrs=q.wrs:=by unfold failQ;split <;> (try split) <;> rfl
theorem failQ_dir (q:DQ):(failQ q).2.dir=q.dir∧(failQ q).2.dck=q.dck∧(failQ q).2.room=q.room:=by unfold failQ;split <;> (try split) <;> exact ⟨rfl,rfl,rfl⟩
set_option maxHeartbeats 1000000 in
set_option maxRecDepth 100000 in
theorem Create_no (hF:FilesV X w fs V C) (h:DiskV X w db M1 M2 v3 v4 q) (ha:q.after≤9223372036854775807) (nm:ByteArray) (hs:nm.size≤1000000) (hk:createC q nm≠0) :
 Calls Tryz.prog 22 #[.pointer (some ⟨db,0,none⟩),.string nm] w fun e w'=>Ends w opCreate nm (createC q nm) e w'∧Left X w db M1 fs C (failQ q).2 w':=by
 obtain ⟨w1,hR,hD,hN⟩:=refuses_any h ha
 unfold createC at hk ⊢
 by_cases hc:(failQ q).1=0
 ·rw [if_neg (by simpa using hc)] at hk ⊢
  rw [hc] at hR
  have hI:=isName_any nm hs w1
  have hm2:=hD.m2
  have hb:=hD.blk
  rw [failQ_now] at hm2
  have q2:w1.cell? ⟨db,2,none⟩=some (.map (some M2)):=hb.cell 2
  cases hn:nameOK nm with
  | false =>
   rw [if_pos rfl]
   rw [hn] at hI
   go_enter Tryz.func22,Tryz.ntmps22
   go_wp2_with (first
    | (go_at_call 70;refine hR.mono ?_;rintro e w9 ⟨rfl,h9⟩;obtain rfl:w1=w9:=h9.symm)
    | (go_at_call 71;refine hI.mono ?_;rintro e w8 ⟨rfl,rfl⟩)
    | (go_at_call 29;refine (fault_any _ _ _ _).mono ?_;rintro e w7 ⟨⟨v,rfl,hv⟩,hb7⟩))
   go_ret
   exact ⟨⟨v,rfl,hv.mono (by rw [hN.size];exact Nat.le_refl _)⟩,left_near hD hF hN hb7⟩
  | true =>
   rw [hn] at hI hk
   rw [if_neg (by simp)] at hk ⊢
   cases hl:look nm q.now 0 with
   | some r =>
    obtain ⟨j,y⟩:=r
    have hl':(lkF nm q.now).isSome=true:=by unfold lkF;rw [hl];rfl
    rw [if_pos hl']
    go_enter Tryz.func22,Tryz.ntmps22
    go_wp2_with (first
     | (go_at_call 70;refine hR.mono ?_;rintro e w9 ⟨rfl,h9⟩;obtain rfl:w1=w9:=h9.symm)
     | (go_at_call 71;refine hI.mono ?_;rintro e w8 ⟨rfl,rfl⟩)
     | (at_lookup;refine wpList_look1 rfl _ _ rfl rfl rfl hm2 hl ?_)
     | (go_at_call 29;refine (fault_any _ _ _ _).mono ?_;rintro e w7 ⟨⟨v,rfl,hv⟩,hb7⟩))
    go_ret
    exact ⟨⟨v,rfl,hv.mono (by rw [hN.size];exact Nat.le_refl _)⟩,left_near hD hF hN hb7⟩
   | none =>
    have hl':(lkF nm q.now).isSome=false:=by unfold lkF;rw [hl];rfl
    rw [if_neg (by rw [hl'];simp)] at hk ⊢
    by_cases h8:8≤q.now.length
    ·rw [if_pos h8]
     have d8:decide ((8:Int)≤(q.now.length:Int))=true:=by simp;omega
     go_enter Tryz.func22,Tryz.ntmps22
     go_wp2_with (first
      | (go_at_call 70;refine hR.mono ?_;rintro e w9 ⟨rfl,h9⟩;obtain rfl:w1=w9:=h9.symm)
      | (go_at_call 71;refine hI.mono ?_;rintro e w8 ⟨rfl,rfl⟩)
      | (at_lookup;refine wpList_look1_none rfl _ _ rfl rfl rfl hm2 hl ?_)
      | (at_len;refine wpList_maplen rfl _ rfl rfl hm2 ?_)
      | (go_at_call 29;refine (fault_any _ _ _ _).mono ?_;rintro e w7 ⟨⟨v,rfl,hv⟩,hb7⟩))
     go_ret
     exact ⟨⟨v,rfl,hv.mono (by rw [hN.size];exact Nat.le_refl _)⟩,left_near hD hF hN hb7⟩
    ·rw [if_neg h8] at hk;exact absurd rfl hk
 ·rw [if_pos hc]
  have hc':((failQ q).1 != 0)=true:=by simpa using hc
  go_enter Tryz.func22,Tryz.ntmps22
  go_wp2_with (first
   | (go_at_call 70;refine hR.mono ?_;rintro e w9 ⟨rfl,h9⟩;obtain rfl:w1=w9:=h9.symm)
   | (go_at_call 29;refine (fault_any _ _ _ _).mono ?_;rintro e w7 ⟨⟨v,rfl,hv⟩,hb7⟩))
  go_ret
  exact ⟨⟨v,rfl,hv.mono (by rw [hN.size];exact Nat.le_refl _)⟩,left_near hD hF hN hb7⟩
set_option maxHeartbeats 2000000 in
set_option maxRecDepth 100000 in
theorem Create_go (hF:FilesV X w fs V C) (h:DiskV X w db M1 M2 v3 v4 q) (ha:q.after≤9223372036854775807) (nm:ByteArray) (hs:nm.size≤1000000) (hk:createC q nm=0) (hm:q.chs.length≤1000) :
 Calls Tryz.prog 22 #[.pointer (some ⟨db,0,none⟩),.string nm] w fun e w'=>Ends w opCreate nm 0 e w'∧∃ f,w.heap.size≤f ∧
  Left X w db M1 (f::fs) (fun g b=>if g=f then [] else C g b) {(failQ q).2 with now:=q.now++[⟨nm,f,q.nck⟩],nck:=q.nck+1,chs:=q.chs++[⟨nm,ByteArray.empty,some f⟩]} w':=by
 obtain ⟨w1,hR,hD,hN⟩:=refuses_any h ha
 unfold createC at hk
 by_cases hc:(failQ q).1=0
 ·rw [if_neg (by simpa using hc)] at hk
  rw [hc] at hR
  have hI:=isName_any nm hs w1
  cases hn:nameOK nm with
  | false=>rw [hn] at hk;cases hk
  | true =>
   rw [hn] at hk hI
   rw [if_neg (by simp)] at hk
   cases hl:look nm q.now 0 with
   | some r =>
    have hl':(lkF nm q.now).isSome=true:=by unfold lkF;rw [hl];rfl
    rw [if_pos hl'] at hk;cases hk
   | none =>
    have hl0:lkF nm q.now=none:=by unfold lkF;rw [hl];rfl
    rw [if_neg (by rw [hl0];simp)] at hk
    by_cases h8:8≤q.now.length
    ·rw [if_pos h8] at hk;cases hk
    ·have hm2:=hD.m2
     have hb:=hD.blk
     rw [failQ_now] at hm2
     have q2:w1.cell? ⟨db,2,none⟩=some (.map (some M2)):=hb.cell 2
     have d8:decide ((8:Int)≤(q.now.length:Int))=false:=by simp;omega
     have hF1:FilesV X w1 fs V C:=hF.keep (fun _ h=>h) hN.files
     have hF2:=hF1.new (X':=More X w) (fun _=>more_left) (.inr (by rw [hN.size];exact Nat.le_refl _))
     have hbW:Below w1.heap.size w1 (w1.alloc (.cells #[.slice none 0 0,.slice none 0 0] 103)):=(Below.refl _ _).alloc (Nat.le_refl _) _
     have hD2:=(hD.below hbW).keep (X':=More X w) (fun _=>more_left) Same.refl (fun _ _ _ _ h=>h)
     have hnow:(failQ q).2.now=q.now:=failQ_now q
     have hT:=turn_any hD2 ⟨nm,ByteArray.empty,some w1.heap.size⟩ (by show lkF nm (failQ q).2.now=none;rw [hnow];exact hl0) (.inr rfl) (by rw [failQ_chs];exact hm)
     change Calls Tryz.prog 72 #[.pointer (some ⟨db,0,none⟩),.agg #[.string nm,.string ⟨#[]⟩,.pointer (some ⟨w1.heap.size,0,none⟩)]] (w1.alloc (.cells #[.slice none 0 0,.slice none 0 0] 103)) _ at hT
     have HT:=Lib.hid hT
     clear hT
     go_enter Tryz.func22,Tryz.ntmps22
     go_wp2_with (first
      | (go_at_call 70;refine hR.mono ?_;rintro e w9 ⟨rfl,h9⟩;obtain rfl:w1=w9:=h9.symm)
      | (go_at_call 71;refine hI.mono ?_;rintro e w8 ⟨rfl,rfl⟩)
      | (at_lookup;refine wpList_look1_none rfl _ _ rfl rfl rfl hm2 hl ?_)
      | (at_len;refine wpList_maplen rfl _ rfl rfl hm2 ?_)
      | (go_at_call 72;refine HT.out.mono ?_;rintro e w3 ⟨rfl,⟨v3',hD3⟩,hS3,hf3⟩)
      | (go_at_call 29;refine (fault_any _ _ _ _).mono ?_;rintro e w7 ⟨⟨v,rfl,hv⟩,hb7⟩))
     go_ret
     refine ⟨⟨v,rfl,hv.zero⟩,w1.heap.size,by rw [hN.size];exact Nat.le_refl _,?_⟩
     have hmm:∀ k,More (More X w) (w1.alloc (.cells #[.slice none 0 0,.slice none 0 0] 103)) k→More X w k:=fun k hk=>hk.elim id (fun h=>.inr (by have:=hbW.size;have:=hN.size;omega))
     have hD4:=(hD3.below hb7).keep hmm Same.refl (fun _ _ _ _ h=>h)
     unfold turnQ at hD4
     simp only [hnow,failQ_nck,failQ_chs] at hD4
     refine ⟨⟨_,_,_,hD4⟩,⟨_,hF2.keep (fun _ h=>h) (hS3.trans (Same.of_below hb7))⟩,?_⟩
     have f1:Fr X w w1:=hN.fr' hD.inX
     have f2:Fr X w (w1.alloc (.cells #[.slice none 0 0,.slice none 0 0] 103)):=f1.alloc _
     have f3:Fr X w w3:=⟨hf3.os.trans f2.os,hf3.tape.trans f2.tape,hf3.output.trans f2.output,Nat.le_trans f2.size hf3.size,fun k hk hx=>(hf3.block k (Nat.lt_of_lt_of_le hk f2.size) (fun hm=>hm.elim hx (fun h=>by omega))).trans (f2.block k hk hx)⟩
     exact f3.trans (Fr.of_below hb7)
 ·rw [if_pos hc] at hk;exact absurd hk hc
end
end
section
open Go.RowKit
open Go.ChangeMaps (setBlock)
def seenL (l:List DE) (seen:Array Nat):List DE:=l.filter fun x=>seen.contains x.born
theorem seenL_other (seen:Array Nat) (b:Nat):∀ (l:List DE),b∉l.map DE.born→seenL l (seen.push b)=seenL l seen
 | [],_=>rfl
 | y::l,h=>by
  unfold seenL
  rw [List.filter_cons,List.filter_cons,contains_push]
  have h1:(y.born==b)=false:=by simp at h ⊢;exact fun e=>h.1 e.symm
  rw [h1,Bool.or_false]
  have:=seenL_other seen b l (fun hm=>h (by simp at hm ⊢;exact .inr hm))
  unfold seenL at this
  rw [this]
theorem seenL_push (seen:Array Nat) (x:DE) (hs:seen.contains x.born=false):∀ (l:List DE),(l.map DE.born).Nodup→x∈l→(seenL l (seen.push x.born)).Perm (x::seenL l seen)
 | [],_,h=>by cases h
 | y::l,hn,h=>by
  obtain ⟨h1,h2⟩:=List.nodup_cons.1 hn
  have e1:∀ s,seenL (y::l) s=if s.contains y.born then y::seenL l s else seenL l s:=fun s=>by
   unfold seenL;rw [List.filter_cons]
  rw [e1,e1,contains_push]
  rcases List.mem_cons.1 h with rfl | h
  ·rw [hs]
   simp only [BEq.rfl,Bool.or_true,if_true,Bool.false_eq_true,if_false]
   rw [seenL_other seen _ l h1]
  ·have hne:(y.born==x.born)=false:=by
    rw [beq_eq_false_iff_ne]
    exact fun e=>h1 (List.mem_map.2 ⟨x,h,e.symm⟩)
   rw [hne,Bool.or_false]
   have ih:=seenL_push seen x hs l h2 h
   split
   ·exact (ih.cons y).trans (List.Perm.swap x y _)
   ·exact ih
theorem seenL_all (l:List DE) (seen:Array Nat) (h:(leftOf (l.map DE.ent).toArray seen).size=0):seenL l seen=l:=by
 unfold seenL
 rw [List.filter_eq_self]
 intro x hx
 have:=all_seen _ _ h x.ent (by simp;exact ⟨x,hx,rfl⟩)
 exact this
theorem left_ent {l:List DE} {seen:Array Nat} {e:MapEntry} (h:e∈(leftOf (l.map DE.ent).toArray seen).toList):∃ x∈l,e=x.ent∧seen.contains x.born=false:=by
 obtain ⟨h1,h2⟩:=mem_left h
 simp at h1
 obtain ⟨x,hx,rfl⟩:=h1
 exact ⟨x,hx,rfl,h2⟩
theorem map_born (l:List DE):((l.map DE.ent).toArray.toList.map (·.born))=l.map DE.born:=by simp [Function.comp_def];intro x hx;rfl
theorem MapOK.born_nodup {l:List DE} {ck:Nat} (h:MapOK l ck):(l.map DE.born).Nodup:=by
 rw [List.Nodup,List.pairwise_map]
 exact h.order.imp fun hlt=>Nat.ne_of_lt hlt
theorem MapOK.hold {l:List DE} {ck:Nat} (h:MapOK l ck):∀ x∈(l.map DE.ent).toArray.toList,x.born<ck:=by
 intro x hx
 simp at hx
 obtain ⟨y,hy,rfl⟩:=hx
 exact h.born y hy
def ItAt (w:World) (r M:Nat) (l:List DE) (ck:Nat) (seen:Array Nat):Prop:=w.heap[r]?=some (.mapIter (some M) ck seen ck)∧w.heap[M]?=some (.map (l.map DE.ent).toArray ck)
theorem setBlock_heap (w:World) (r:Nat) (o:Obj) (k:Nat) (h:k≠r):(setBlock w r o).heap[k]?=w.heap[k]?:=by
 unfold setBlock
 exact Array.getElem?_setIfInBounds_ne (Ne.symm h)
theorem setBlock_at (w:World) (r:Nat) (o:Obj) (h:r<w.heap.size):(setBlock w r o).heap[r]?=some o:=by
 unfold setBlock
 simp [h]
theorem it_step {w:World} {r M:Nat} {l:List DE} {ck:Nat} {seen:Array Nat} (h:ItAt w r M l ck seen) (ho:MapOK l ck) :
 ((leftOf (l.map DE.ent).toArray seen).size=0∧∀ ty,(Instr.next (.pointer (some ⟨r,0,none⟩)) false ty).run Tryz.prog w=.ok (.tuple #[.bool false]) w) ∨
 ∃ x∈l,seen.contains x.born=false∧(leftOf (l.map DE.ent).toArray (seen.push x.born)).size<(leftOf (l.map DE.ent).toArray seen).size∧∃ w1:World,(∀ ty,(Instr.next (.pointer (some ⟨r,0,none⟩)) false ty).run Tryz.prog w=.ok (.tuple #[.bool true,.string x.nm,x.val]) w1) ∧
  (∀ W:World,ItAt W r M l ck (seen.push x.born)→(Instr.entry (.pointer (some ⟨r,0,none⟩))).run Tryz.prog W=.ok (.tuple #[.string x.nm,x.val]) W)∧ItAt w1 r M l ck (seen.push x.born)∧w1.os=w.os∧w1.tape=w.tape∧w1.output=w.output∧w1.heap.size=w.heap.size∧∀ k,k≠r→w1.heap[k]?=w.heap[k]?:=by
 obtain ⟨h1,h2⟩:=h
 have hlt:=(Array.getElem?_eq_some_iff.1 h1).1
 have hne:M≠r:=fun e=>by subst e;rw [h1] at h2;cases h2
 by_cases h0:(leftOf (l.map DE.ent).toArray seen).size=0
 ·refine .inl ⟨h0,fun ty=>?_⟩
  rcases run_next_at (P:=Tryz.prog) w ty r M ck ck seen _ ck h1 h2 ho.hold (Nat.le_refl _) with ⟨_,hr⟩ | ⟨e,he,_⟩
  ·exact hr
  ·exact absurd (Array.size_pos_of_mem (Array.mem_toList_iff.1 he)) (by omega)
 ·rcases run_next_at (P:=Tryz.prog) w 0 r M ck ck seen _ ck h1 h2 ho.hold (Nat.le_refl _) with ⟨h3,_⟩ | ⟨e,he,w1,hw1,hr⟩
  ·exact absurd h3 h0
  ·obtain ⟨x,hx,rfl,hs⟩:=left_ent he
   refine .inr ⟨x,hx,hs,left_shrinks _ seen _ he,setBlock w1 r (.mapIter (some M) ck (seen.push x.born) ck),fun ty=>hr,fun W hW=>?_,?_,?_⟩
   ·exact run_entry_at (P:=Tryz.prog) W r M ck seen _ ck x.ent hW.1 hW.2 (by simp;exact ⟨x,hx,rfl⟩) (by rw [map_born];exact ho.born_nodup)
   ·rcases hw1 with rfl | rfl
    ·exact ⟨setBlock_at _ _ _ hlt,(setBlock_heap _ _ _ _ hne).trans h2⟩
    ·exact ⟨setBlock_at _ _ _ hlt,(setBlock_heap _ _ _ _ hne).trans h2⟩
   ·rcases hw1 with rfl | rfl
    ·exact ⟨rfl,rfl,rfl,by unfold setBlock;simp,fun k hk=>setBlock_heap _ _ _ k hk⟩
    ·exact ⟨rfl,rfl,rfl,by show (w.heap.setIfInBounds _ _).size=w.heap.size;simp,fun k hk=>setBlock_heap _ _ _ k hk⟩
theorem ItAt.seen {w:World} {r M:Nat} {l:List DE} {ck:Nat} {seen:Array Nat} (h:ItAt w r M l ck seen):w.iterSeen r=seen:=by
 unfold World.iterSeen;rw [h.1]
def lens (C:Nat→Bool→List ByteArray) (l:List DE):Nat:=(l.map fun x=>(C x.f true).length).sum
theorem lens_perm {C:Nat→Bool→List ByteArray} {l m:List DE} (h:l.Perm m):lens C l=lens C m:=(h.map _).sum_nat
theorem lens_le {C:Nat→Bool→List ByteArray} {B:Nat}:∀ {l:List DE},(∀ x∈l,(C x.f true).length≤B)→lens C l≤l.length*B
 | [],_=>by simp [lens]
 | x::l,h=>by
  have h1:=h x List.mem_cons_self
  have h2:=lens_le (l:=l) (fun y hy=>h y (List.mem_cons_of_mem _ hy))
  have e:lens C (x::l)=(C x.f true).length+lens C l:=by simp [lens]
  rw [e,List.length_cons,Nat.add_mul];omega
def UsedRel (C:Nat→Bool→List ByteArray) (W:World) (r M:Nat) (l:List DE) (ck:Nat) (n:Value) (wr:World):Prop:=∃ seen,ItAt wr r M l ck seen∧n=.int .i64 (lens C (seenL l seen))∧Below W.heap.size W wr
set_option maxHeartbeats 2000000 in
set_option maxRecDepth 100000 in
theorem used_any {X:Nat→Prop} {w:World} {db M1 M2:Nat} {v3 v4:Value} {q:DQ} {fs:List Nat} {V:Nat→Bool→Value} {C:Nat→Bool→List ByteArray} (hF:FilesV X w fs V C) (h:DiskV X w db M1 M2 v3 v4 q)
 (hfs:∀ x∈q.now,x.f∈fs) (hn:q.now.length≤8) (hc:∀ x∈q.now,(C x.f true).length≤4096) :
 Calls Tryz.prog 74 #[.pointer (some ⟨db,0,none⟩)] w fun e w'=>e=.returned (.int .i64 (lens C q.now))∧Below w.heap.size w w':=by
 have c2:w.cell? ⟨db,2,none⟩=some (.map (some M2)):=h.blk.cell 2
 have hrg:=run_range_map (P:=Tryz.prog) w 62 _ _ M2 _ q.nck Tryz.underlying62 h.m2
 have hle:=lens_le (C:=C) (B:=4096) hc
 have hM:=(Array.getElem?_eq_some_iff.1 h.m2).1
 go_enter Tryz.func74,Tryz.ntmps74
 go_wp2
 go_loopw [2] (fun n wr=>UsedRel C w w.heap.size M2 q.now q.nck n wr) (fun _ wr=>(leftOf (q.now.map DE.ent).toArray (wr.iterSeen w.heap.size)).size)
 case atStart =>
  refine ⟨#[],⟨heap_alloc_new w _,(Below.heap_alloc _ _ _ hM).trans h.m2⟩,?_,(Below.refl _ _).alloc (Nat.le_refl _) _⟩
  rw [show seenL q.now #[]=[] from List.filter_eq_nil_iff.2 (fun x _=>by simp)];rfl
 case round =>
  obtain ⟨seen,hit,rfl,hB⟩:=hrel
  rcases it_step hit h.ok2 with ⟨h0,hnx⟩ | ⟨x,hx,hs,hsm,w1,hnx,hen,hit1,ho,ht,hu,hsz,hbl⟩
  ·have e0:=seenL_all q.now seen h0
   go_wp2
   go_ret
   exact ⟨by rw [e0];rfl,hB⟩
  ·have hB1:Below w.heap.size w w1:=⟨ho.trans hB.os,ht.trans hB.tape,hu.trans hB.output,by rw [hsz];exact hB.size,fun k hk=>(hbl k (by omega)).trans (hB.block k hk)⟩
   have hen1:=hen w1 hit1
   clear hen
   obtain ⟨A,c,hV⟩:=(hF.row x.f (hfs x hx) true).form
   have hfb:Blk w1 x.f 103 _:=(hB1.block _ (hF.blk x.f (hfs x hx)).lt).trans (hF.blk x.f (hfs x hx))
   have k1:w1.cell? ⟨x.f,1,none⟩=some (.slice A (C x.f true).length c):=by rw [hfb.cell 1,←hV];rfl
   have hp:=lens_perm (C:=C) (seenL_push seen x hs q.now h.ok2.born_nodup hx)
   have e1:lens C (x::seenL q.now seen)=(C x.f true).length+lens C (seenL q.now seen):=by simp [lens]
   have h3:lens C (seenL q.now (seen.push x.born))≤8*4096:=by
    refine Nat.le_trans (lens_le (B:=4096) (fun y hy=>hc y (List.mem_filter.1 hy).1)) (Nat.mul_le_mul_right _ (Nat.le_trans (List.length_filter_le _ _) hn))
   unfold DE.val at hnx hen1
   go_wp2
   go_roundw
   case rel=>exact ⟨seen.push x.born,hit1,by rw [hp,e1];go_num,hB1⟩
   case measure =>
    rw [hit1.seen,hit.seen]
    exact hsm
end
section
open Go.RowKit
set_option maxHeartbeats 1000000 in
set_option maxRecDepth 100000 in
theorem Mul64_one (y:Nat) (hy:y≤1000000) (w:World):Calls Tryz.prog 114 #[.int .u64 1,.int .u64 y] w fun e w'=>e=.returned (.tuple #[.int .u64 0,.int .u64 y])∧w=w':=by
 have m1:bits .and .u64 1 4294967295=1:=Mul64.maskN 1 (by omega)
 have m2:bits .and .u64 (y:Int) 4294967295=(y:Int):=by rw [Mul64.maskN y (by omega)];omega
 have e1:(y:Int) / 4294967296=0:=by omega
 have e2:bits .and .u64 0 4294967295=0:=Mul64.maskN 0 (by omega)
 have e3:IntKind.u64.wrap (y:Int)=(y:Int):=by rw [IntKind.wrap_u64];omega
 go_enter Tryz.func114,Tryz.ntmps114
 go_wp2
 go_ret2
 exact ⟨rfl,rfl⟩
set_option maxHeartbeats 1000000 in
set_option maxRecDepth 100000 in
theorem Mul_one (y:Nat) (hy:y≤1000000) (w:World):Calls Tryz.prog 101 #[.int .u64 1,.int .u64 y] w fun e w'=>e=.returned (.tuple #[.int .u64 0,.int .u64 y])∧w=w':=by
 go_enter Tryz.func101,Tryz.ntmps101
 go_wp2_with (go_at_call 114;refine (Mul64_one y hy w).mono ?_;rintro e w1 ⟨rfl,rfl⟩)
 go_ret2
 exact ⟨rfl,rfl⟩
theorem step_copy {P:Program} {w w':World} {ops:Array Oper} {o:Oper} {a:Act} {K:Act→World→Prop} {Q:Exit→Act→World→Prop} {E:Prop} (hgd:o.guard=none) (d s:Operand) (t:TypeId)
 (ho:o.op=.call {callee:=.builtin .copy,args:=#[d,s],argTypes:=#[t,t]}) (vd vs:Value) (hd:a.eval d=vd) (hs:a.eval s=vs) (n:Int)
 (hrun:∀ ty,(Builtin.copy_ #[t,t] ty #[vd,vs]).run P w=.ok (.int .i64 n) w') (h:K (a.put o.dst (.int .i64 n)) w') :
 if Region.wanted o (yielded ops a.tmps)=true then Oper.wp P o a w K Q else E:=by
 have hw:Region.wanted o (yielded ops a.tmps)=true:=by simp [Region.wanted,hgd]
 rw [if_pos hw]
 unfold Oper.wp execOp
 simp only [ho,resolve,invoke,builtin,Sem.run_bind,Sem.run_pure,Result.andThen_ok,List.map_toArray,List.map_cons,List.map_nil,hd,hs,hrun]
 exact h
def Full (w:World) (g n k:Nat) (s:ByteArray):Prop:=∃ cur,Blk w g 101 cur∧cur.size=n∧∀ j,j<k→cur[j]?=some (.string s)
theorem Full.step {w w':World} {g n k m:Nat} {s:ByteArray} {cur:Array Value} (hg:Blk w g 101 cur) (hsz:cur.size=n) (hk:∀ j,j<k→cur[j]?=some (.string s)) (hm:k+m≤n)
 (e:w'=w.setRow g (cur.toList.take k++List.replicate m (Value.string s)++cur.toList.drop (k+m)).toArray) (hB:Below g w w'):Full w' g n (k+m) s:=by
 have hlt:=hg.lt
 refine ⟨(cur.toList.take k++List.replicate m (Value.string s)++cur.toList.drop (k+m)).toArray,?_,?_,?_⟩
 ·subst e
  unfold Blk at hg ⊢
  simp [World.setRow,hg,Array.getElem?_modify]
 ·simp;omega
 ·intro j hj
  simp only [List.getElem?_toArray]
  rw [List.append_assoc,List.getElem?_append]
  have hl:(cur.toList.take k).length=k:=by simp;omega
  rw [hl]
  by_cases h:j<k
  ·rw [if_pos h,List.getElem?_take,if_pos h]
   have:=hk j h
   simpa using this
  ·rw [if_neg h,List.getElem?_append,List.length_replicate,if_pos (by omega),List.getElem?_replicate,if_pos (by omega)]
theorem below_setRow {B:Nat} {w w1:World} {g:Nat} {cs:Array Value} (hb:Below B w w1) (hg:B≤g):Below B w (w1.setRow g cs) :=
 ⟨hb.os,hb.tape,hb.output,by simpa [World.setRow] using hb.size,fun k hk=>by
  have:(w1.setRow g cs).heap[k]?=w1.heap[k]?:=by
   simp only [World.setRow]
   rw [Array.getElem?_modify]
   rw [if_neg (by omega)]
  exact this.trans (hb.block k hk)⟩
def RepRel (W:World) (g n:Nat) (s:ByteArray) (i:Value) (wr:World):Prop:=∃ k,k≤n∧(0<n→0<k)∧i=.int .i64 k∧Full wr g n k s∧Below W.heap.size W wr
set_option maxHeartbeats 2000000 in
set_option maxRecDepth 100000 in
theorem Repeat_one {B:Nat} {w:World} {A:Option Addr} {c:Nat} {s:ByteArray} (n:Nat) (hn:n≤5000) (hr:Reads w B 1 A 1 [.string s]) (hB:B≤w.heap.size) :
 Calls Tryz.prog 75 #[.slice A 1 c,.int .i64 n] w fun e w'=>e=.returned (.slice (some ⟨w.heap.size,0,none⟩) n n)∧Full w' w.heap.size n n s∧Below w.heap.size w w':=by
 obtain ⟨i0,hi0,hz0,hz1,hz2⟩:=info_parts Tryz.info101
 obtain ⟨ad,u,rfl,hAB,hu,hc⟩:=hr.at_ (k:=0) (by omega)
 obtain rfl:Value.string s=u:=by simpa using hu
 have d0:decide ((n:Int)<0)=false:=by simp
 have e3:IntKind.u64.wrap (n:Int)=(n:Int):=by rw [IntKind.wrap_u64];omega
 have d1:decide ((9223372036854775807:Int)<(n:Int))=false:=by simp;omega
 have hsome:(Tryz.prog.info? 101).map (·.size)=some 1:=by rw [hi0];simp [hz1]
 have hmk:=run_makeSlice (P:=Tryz.prog) w 99 101 i0 _ Tryz.underlying99 hi0 hz0 .i64 .i64 n n (by omega) (Int.le_refl _) (by rw [hz1];simp;omega) (by rw [hz2];omega) (by omega)
 rw [hz1] at hmk
 simp only [Int.toNat_natCast,Nat.mul_one] at hmk
 obtain ⟨cur,hcur⟩:∃ cur,madeCells (Value.string ByteArray.empty).cells n=cur:=⟨_,rfl⟩
 have hcs:cur.size=n:=by rw [←hcur];simp [madeCells,Value.cells]
 rw [hcur] at hmk
 have hb1:Blk (w.alloc (.cells cur 101)) w.heap.size 101 cur:=Blk.new w _ _
 have hB1:Below w.heap.size w (w.alloc (.cells cur 101)):=(Below.refl _ _).alloc (Nat.le_refl _) _
 have hr1:=hr.alloc hB (.cells cur 101)
 obtain ⟨W,hW⟩:∃ W,w.alloc (.cells cur 101)=W:=⟨_,rfl⟩
 rw [hW] at hmk hb1 hB1 hr1
 have hcp:∃ m W',(∀ ty,(Builtin.copy_ #[99,99] ty #[.slice (some ⟨w.heap.size,0,none⟩) n n,.slice (some ad) 1 c]).run Tryz.prog W=.ok (.int .i64 (m:Nat)) W')∧m≤n∧(0<n→0<m)∧Full W' w.heap.size n m s∧Below w.heap.size w W':=by
  by_cases h0:n=0
  ·subst h0
   exact ⟨0,W,fun ty=>run_copy_none W 99 99 ty 101 _ _ 0 0 1 c Tryz.underlying99 hsome rfl,Nat.le_refl _,fun h=>h,⟨cur,hb1,hcs,fun j hj=>by omega⟩,hB1⟩
  ·refine ⟨1,W.setRow w.heap.size (cur.toList.take 0++List.replicate 1 (Value.string s)++cur.toList.drop (0+1)).toArray,fun ty=>?_,by omega,fun _=>by omega,?_,below_setRow hB1 (Nat.le_refl _)⟩
   ·exact run_copy_row Tryz.prog W 99 99 ty 101 w.heap.size 0 n n ad 1 c cur 101 [.string s] Tryz.underlying99 hsome hb1 (by show 1=min 1 n;omega) (fun j v hj=>by
     obtain ⟨_,e,_,hh⟩:=hr1.2 (by omega)
     cases e
     exact hh j v hj) (by simp;omega) (by simp [Value.oneCell'])
   ·exact Full.step (k:=0) (m:=1) hb1 hcs (fun j hj=>by omega) (by omega) rfl (below_setRow (Below.refl _ _) (Nat.le_refl _))
 obtain ⟨m,W',hcp,hm1,hm2,hF,hB2⟩:=hcp
 clear hW hb1 hr1
 go_enter Tryz.func75,Tryz.ntmps75
 go_wp2_with (go_at_call 101;refine (Mul_one n (by omega) w).mono ?_;rintro e w1 ⟨rfl,rfl⟩)
 go_loopw [8] (fun i wr=>RepRel w w.heap.size n s i wr) (fun i _=>n-(intOf i).toNat)
 case atStart=>exact ⟨m,hm1,hm2,rfl,hF,hB2⟩
 case round =>
  obtain ⟨k,hk,hk0,rfl,⟨cu,hb,hsz,hcu⟩,hB⟩:=hrel
  by_cases hlt:k<n
  ·have d3:decide (k<n)=true:=by simpa using hlt
   have d4:decide ((k:Int)<(n:Int))=true:=by simpa using hlt
   have i0:(0:Int)≤(k:Int):=by omega
   have i1:(k:Int)≤(n:Int):=by omega
   have hk1:=hk0 (by omega)
   have hkn:¬ n=k:=by omega
   obtain ⟨m2,hm2⟩:∃ m2,min k (n-k)=m2:=⟨_,rfl⟩
   have hwr:IntKind.i64.wrap ((k:Int)+(m2:Int))=(k:Int)+(m2:Int):=by rw [IntKind.wrap_i64];omega
   have hcp2:∀ ty,(Builtin.copy_ #[99,99] ty #[.slice (some ⟨w.heap.size,k,none⟩) (n-k) (n-k),.slice (some ⟨w.heap.size,0,none⟩) k n]).run Tryz.prog wr.drew=.ok (.int .i64 m2) (wr.drew.setRow w.heap.size (cu.toList.take k++List.replicate m2 (Value.string s)++cu.toList.drop (k+m2)).toArray):=fun ty=>by
    have h:=run_copy_row Tryz.prog wr.drew 99 99 ty 101 w.heap.size k (n-k) (n-k) ⟨w.heap.size,0,none⟩ k n cu 101 (List.replicate m2 (Value.string s)) Tryz.underlying99 hsome hb (by rw [List.length_replicate,←hm2]) (fun j v hj=>by
     rw [List.getElem?_replicate] at hj
     by_cases h:j<m2
     ·rw [if_pos h] at hj
      cases hj
      have e:(⟨w.heap.size,0,none⟩:Addr).add j=⟨w.heap.size,j,none⟩:=by unfold Addr.add;split <;> simp_all
      rw [e]
      exact (Blk.cell (w:=wr) hb j).trans (hcu j (by omega))
     ·rw [if_neg h] at hj;cases hj) (by rw [List.length_replicate];omega) (fun v hv=>by rw [(List.mem_replicate.1 hv).2];rfl)
    rw [List.length_replicate] at h
    exact h
   have hF2:Full (wr.drew.setRow w.heap.size (cu.toList.take k++List.replicate m2 (Value.string s)++cu.toList.drop (k+m2)).toArray) w.heap.size n (k+m2) s:=Full.step (w:=wr.drew) hb hsz hcu (by omega) rfl (below_setRow (Below.refl _ _) (Nat.le_refl _))
   have hB3:Below w.heap.size w (wr.drew.setRow w.heap.size (cu.toList.take k++List.replicate m2 (Value.string s)++cu.toList.drop (k+m2)).toArray):=below_setRow (w1:=wr.drew) ⟨hB.os,hB.tape,hB.output,hB.size,hB.block⟩ (Nat.le_refl _)
   rw [List.append_assoc] at hF2 hB3
   go_wp2
   go_region_law (refine step_copy (by rfl) (.tmp 41) (.tmp 44) 99 (by rfl) (.slice (some ⟨w.heap.size,k,none⟩) (n-k) (n-k)) (.slice (some ⟨w.heap.size,0,none⟩) k n) (by simp [Act.eval,Act.put,hkn]) (by simp [Act.eval,Act.put]) m2 hcp2 ?_)
   all_goals
    simp [Act.put,Act.eval,hwr]
    go_roundw
    case rel=>exact ⟨_,_,_,_,_,_,_,_,_,_,_,_,_,_,⟨k+m2,by omega,fun _=>by omega,by go_num,hF2,hB3⟩,rfl⟩
    case measure=>simp [intOf];omega
  ·obtain rfl:k=n:=by omega
   have d3:decide (k<k)=false:=by simp
   go_wp2
   go_ret
   exact ⟨rfl,⟨cu,hb,hsz,hcu⟩,hB⟩
end
section
open Go.RowKit
def opSyncDir:ByteArray:=⟨#[115,121,110,99,100,105,114]⟩
set_option maxHeartbeats 2000000 in
set_option maxRecDepth 100000 in
theorem MClone_any {M clock:Nat} {es:Array MapEntry} {w:World} (hb:w.heap[M]?=some (.map es clock)) :
 Calls Tryz.prog 62 #[.map (some M)] w fun e w'=>e=.returned (.map (some w.heap.size))∧w'=w.alloc (.map es clock):=by
 have hq:=fun w=>run_eql_map_nil_sl (P:=Tryz.prog) w 62 _ _ (some M) Tryz.underlying62
 go_enter Tryz.func62,Tryz.ntmps62
 go_wp2
 rw [run_callFunc_extern Tryz.func100 (by kernel_rfl) (by kernel_rfl) (by kernel_rfl) (e:=Extern.MapsClone.clone) (by kernel_rfl),run_maps_clone_sl w 62 hb]
 simp only [Result.andThen]
 rw [Oper.upon_value]
 go_wp2
 rw [run_typeAssert_map_sl _ 62 20 _ _ _ Tryz.underlying62]
 simp only [Result.andThen]
 rw [Oper.upon_value]
 go_wp2
 go_ret
 exact ⟨rfl,rfl⟩
def syncdirC (q:DQ):Int:=(failQ q).1
section
variable {X:Nat→Prop} {w w1 w2:World} {db M1 M2:Nat} {v3 v4:Value} {q q':DQ} {fs:List Nat} {V:Nat→Bool→Value} {C:Nat→Bool→List ByteArray}
set_option maxHeartbeats 2000000 in
set_option maxRecDepth 100000 in
theorem SyncDir_no (hF:FilesV X w fs V C) (h:DiskV X w db M1 M2 v3 v4 q) (ha:q.after≤9223372036854775807) (hk:(failQ q).1≠0) :
 Calls Tryz.prog 23 #[.pointer (some ⟨db,0,none⟩)] w fun e w'=>Ends w opSyncDir ByteArray.empty (failQ q).1 e w'∧Left X w db M1 fs C (failQ q).2 w':=by
 obtain ⟨w1,hR,hD,hN⟩:=refuses_any h ha
 have hc':((failQ q).1==0)=false:=by simpa using hk
 have hc'':((failQ q).1 != 0)=true:=by simpa using hk
 go_enter Tryz.func23,Tryz.ntmps23
 go_wp2_with (first
  | (go_at_call 70;refine hR.mono ?_;rintro e w9 ⟨rfl,h9⟩;obtain rfl:w1=w9:=h9.symm)
  | (go_at_call 29;refine (fault_any _ _ _ _).mono ?_;rintro e w7 ⟨⟨v,rfl,hv⟩,hb7⟩))
 go_ret
 exact ⟨⟨v,rfl,hv.mono (by rw [hN.size];exact Nat.le_refl _)⟩,left_near hD hF hN hb7⟩
theorem DiskV.syncd (h:DiskV X w db M1 M2 v3 v4 q):DiskV (More X w) (((w.alloc (.map (q.now.map DE.ent).toArray q.nck)).setCell ⟨db,1,none⟩ (.map (some w.heap.size))).setCell ⟨db,3,none⟩ (.slice none 0 0)) db w.heap.size M2 (.slice none 0 0) v4 {q with dir:=q.now,dck:=q.nck,chs:=[]}:=by
 have hA:=(h.below ((Below.refl _ w).alloc (Nat.le_refl _) (.map (q.now.map DE.ent).toArray q.nck)))
 have hlt:=h.blk.lt
 have hM2:=(Array.getElem?_eq_some_iff.1 h.m2).1
 have hnew:=heap_alloc_new w (.map (q.now.map DE.ent).toArray q.nck)
 have hb1:=hA.blk.set_ 1 (.map (some w.heap.size))
 have hoth:∀ k,k≠db→(((w.alloc (.map (q.now.map DE.ent).toArray q.nck)).setCell ⟨db,1,none⟩ (.map (some w.heap.size))).setCell ⟨db,3,none⟩ (.slice none 0 0)).heap[k]?=(w.alloc (.map (q.now.map DE.ent).toArray q.nck)).heap[k]?:=fun k hk=>(Below.heap_setCell _ _ _ _ hk).trans (Below.heap_setCell _ _ _ _ hk)
 have hw3:=row_set (o:=3) (u:=.slice none 0 0) hb1 (by decide) (row_set (o:=1) (u:=.map (some w.heap.size)) hA.blk (by decide) hA.wrs)
 refine h.cells (X':=More X w) (fun _=>more_left) (q':={q with dir:=q.now,dck:=q.nck,chs:=[]}) (hb1.set_ 3 (.slice none 0 0)) ((hoth _ (by omega)).trans hnew) ((hoth _ h.m2_ne).trans hA.m2) (by show w.heap.size≠M2;omega) (.inr (Nat.le_refl _)) (more_left h.inX2) h.ok2 h.ok2 RowX.nil (hw3.keep (fun k cs _ _ h=>h) (fun _=>more_left))
set_option maxHeartbeats 2000000 in
set_option maxRecDepth 100000 in
theorem SyncDir_go (hF:FilesV X w fs V C) (h:DiskV X w db M1 M2 v3 v4 q) (ha:q.after≤9223372036854775807) (hk:(failQ q).1=0) :
 Calls Tryz.prog 23 #[.pointer (some ⟨db,0,none⟩)] w fun e w'=>Ends w opSyncDir ByteArray.empty 0 e w'∧Left X w db w.heap.size fs C {(failQ q).2 with dir:=q.now,dck:=q.nck,now:=q.now,nck:=q.nck,chs:=[]} w':=by
 obtain ⟨w1,hR,hD,hN⟩:=refuses_any h ha
 rw [hk] at hR
 have hb:=hD.blk
 have q2:w1.cell? ⟨db,2,none⟩=some (.map (some M2)):=hb.cell 2
 have bA:=hb.alloc (.map ((failQ q).2.now.map DE.ent).toArray (failQ q).2.nck)
 have c1:=bA.cell 1
 have c3:=bA.cell 3
 have f1:=bA.frozen 1
 have f3:=bA.frozen 3
 have hS:=hD.syncd
 have HS:=Lib.hid hS
 clear hS
 go_enter Tryz.func23,Tryz.ntmps23
 go_wp2_with (first
  | (go_at_call 70;refine hR.mono ?_;rintro e w9 ⟨rfl,h9⟩;obtain rfl:w1=w9:=h9.symm)
  | (go_at_call 62;refine (MClone_any hD.m2).mono ?_;rintro e w8 ⟨rfl,rfl⟩)
  | (go_at_call 29;refine (fault_any _ _ _ _).mono ?_;rintro e w7 ⟨⟨v,rfl,hv⟩,hb7⟩))
 go_ret
 have hS:=HS.out
 rw [failQ_now,failQ_nck] at hS hb7
 rw [hN.size] at hS hb7
 have hmm:∀ k,More X w1 k→More X w k:=fun k hk=>hk.elim .inl (fun h=>.inr (by have:=hN.size;omega))
 refine ⟨⟨v,rfl,hv.zero⟩,⟨_,_,_,(hS.below hb7).keep hmm Same.refl (fun _ _ _ _ h=>h)⟩,⟨V,hF.keep (fun _=>more_left) ?_⟩,?_⟩
 ·have s1:Same FT X w1 (w1.alloc (.map (q.now.map DE.ent).toArray q.nck)):=Same.of_below ((Below.refl _ _).alloc (Nat.le_refl _) _)
  rw [failQ_now,failQ_nck] at bA
  have s2:=same_set (T:=FT) (X:=X) (o:=1) (u:=.map (some w.heap.size)) bA (by rintro (e | e) <;> cases e)
  have s3:=same_set (T:=FT) (X:=X) (o:=3) (u:=.slice none 0 0) (bA.set_ 1 (.map (some w.heap.size))) (by rintro (e | e) <;> cases e)
  exact (((hN.files.trans s1).trans s2).trans s3).trans (Same.of_below hb7)
 ·have f1:Fr X w w1:=hN.fr' hD.inX
  exact (((f1.alloc _).setCell (p:=⟨db,1,none⟩) (.inr hD.inX) _).setCell (p:=⟨db,3,none⟩) (.inr hD.inX) _).trans (Fr.of_below hb7)
end
end
section
section
variable {P:Program} {ops:Array Oper} {Q:Exit→Act→World→Prop} {md:Region.Mode} {S:World→Prop} {n:Nat}
def wpAnyE (P:Program) (md:Region.Mode) (ops:Array Oper) (Q:Exit→Act→World→Prop) (S:World→Prop) (n:Nat):Nat→Array Bool→Act→World→Prop
 | 0,listed,a,w=>Region.ready md ops listed=[]∧Q .normal a w
 | fuel+1,listed,a,w =>
  (Region.ready md ops listed=[]→Q .normal a w) ∧
  ∀ i∈Region.ready md ops listed,wpOp P ops Q i (fun a' w'=>(i<n→S w')∧wpAnyE P md ops Q S n fuel (listed.setIfInBounds i true) a' w') a w
theorem wpAny_of_E:∀ (fuel:Nat) (listed:Array Bool) (a:Act) (w:World),wpAnyE P md ops Q S n fuel listed a w→wpAny P md ops Q fuel listed a w
 | 0,_,_,_,h=>h
 | fuel+1,_,_,_,h=>⟨h.1,fun i hi=>wpOp_mono (fun a' w' h'=>wpAny_of_E fuel _ a' w' h'.2) (h.2 i hi)⟩
theorem wpAnyE_first {i:Nat} {oi:Oper} {v:Value} (hi:ops[i]?=some oi) (hsel:∀ (j:Nat) (o:Oper) cs b,ops[j]?=some o→o.op≠.select cs b)
 (hQ:∀ c a w,Q (.panic c) (a.put oi.dst v) w→Q (.panic c) a w) (hs:Region.sinkB md ops n=true) (hc:Region.chainB md ops n=true) (hn:n<ops.size) (hin:i<n) :
 ∀ (fuel:Nat) (listed:Array Bool) (a:Act) (w:World),HeadInv md ops n listed →
  (∀ j oj,ops[j]?=some oj→j≠i→listed.getD j true=false→(∀ e∈oj.after,Region.binds md e=true→e.on≠i)→oi.apart ops oj=true) →
  i∈Region.ready md ops listed→YieldsIf P ops S oi v a→S w →
  wpAnyE P md ops Q S n fuel (listed.setIfInBounds i true) (a.put oi.dst v) w→wpAnyE P md ops Q S n (fuel+1) listed a w:=by
 intro fuel
 induction fuel with
 | zero =>
  intro listed a w _ _ hr hy hS H
  refine ⟨fun h=>(by rw [h] at hr;cases hr),fun j hj=>?_⟩
  by_cases hji:j=i
  ·subst hji;exact hy.wpOp hi hS ⟨fun _=>hS,H⟩
  ·have:=ready_mono hj hji
   rw [H.1] at this
   cases this
 | succ fuel ih =>
  intro listed a w inv hfree hr hy hS H
  have hun:=(mem_ready.1 hr).1
  refine ⟨fun h=>(by rw [h] at hr;cases hr),fun j hj=>?_⟩
  by_cases hji:j=i
  ·subst hji;exact hy.wpOp hi hS ⟨fun _=>hS,H⟩
  ·have hjn:j<n:=by
    rcases Nat.lt_or_ge j n with h | h
    ·exact h
    ·exact absurd hj (tail_waits hs hc hn inv _ i rfl hin hun j h)
   have h1:=H.2 j (ready_mono hj hji)
   obtain ⟨hjun,oj,hoj,hall⟩:=mem_ready.1 hj
   have hnot:∀ e∈oj.after,Region.binds md e=true→e.on≠i:=fun e he hb heq=>by
    have h1:=hall e he hb
    rw [heq,getD_both hun] at h1
    cases h1
   have h2:=wpOp_putIf hoj (hfree j oj hoj hji hjun hnot) (fun cs b=>hsel i oi cs b hi) (fun cs b=>hsel j oj cs b hoj) hQ hy h1
   have hfree':∀ k ok,ops[k]?=some ok→k≠i→(listed.setIfInBounds j true).getD k true=false →
    (∀ e∈ok.after,Region.binds md e=true→e.on≠i)→oi.apart ops ok=true:=fun k ok hk hki hu hno=>by
    refine hfree k ok hk hki ?_ hno
    by_cases hjk:j=k
    ·subst hjk;exact hjun
    ·rw [getD_set_ne true hjk] at hu;exact hu
   refine wpOp_mono (fun a' w' h3=>⟨h3.2.1,ih (listed.setIfInBounds j true) a' w' (inv.set hj hjn) hfree' (ready_mono hr (Ne.symm hji)) h3.1 (h3.2.1 hjn) ?_⟩) h2
   rw [Array.setIfInBounds_comm _ _ hji]
   exact h3.2.2
structure Tl (md:Region.Mode) (ops:Array Oper) (n:Nat) (listed:Array Bool):Prop where
 sink:Region.sinkB md ops n=true
 chain:Region.chainB md ops n=true
 lt:n<ops.size
 sel:Region.noSelect ops=true
 inv:HeadInv md ops n listed
theorem takeE {listed:Array Bool} (i:Nat) {oi:Oper} {v:Value} {fuel:Nat} {a:Act} {w:World} (T:Tl md ops n listed) (hi:ops.toList[i]?=some oi) (hin:i<n)
 (hf:Region.free md ops listed i=true) (hr:(Region.ready md ops listed).contains i=true) (hQ:∀ c a w,Q (.panic c) (a.put oi.dst v) w→Q (.panic c) a w) (hS:S w) (hy:YieldsIf P ops S oi v a)
 (h:Tl md ops n (listed.setIfInBounds i true)→wpAnyE P md ops Q S n fuel (listed.setIfInBounds i true) (a.put oi.dst v) w):wpAnyE P md ops Q S n (fuel+1) listed a w:=by
 have hi':ops[i]?=some oi:=by rw [←Array.getElem?_toList];exact hi
 have hr':i∈Region.ready md ops listed:=by simpa using hr
 exact wpAnyE_first hi' (Region.noSelect_spec T.sel) hQ T.sink T.chain T.lt hin fuel listed a w T.inv (Region.free_spec hi' hf) hr' hy hS (h ⟨T.sink,T.chain,T.lt,T.sel,T.inv.set hr' hin⟩)
theorem pT:(∀ (a:Act) (d:Nat) (v:Value),a.put (some d) v={a with tmps:=a.tmps.setIfInBounds d v})∧(∀ (a:Act) (v:Value),a.put none v=a)∧(∀ (l:List Value) (i:Nat) (v:Value),l.toArray.setIfInBounds i v=(l.set i v).toArray)∧(∀ (x v:Value) (l:List Value),(x::l).set 0 v=v::l)∧(∀ (x v:Value) (l:List Value) (i:Nat),(x::l).set (i+1) v=x::l.set i v) :=
 ⟨fun _ _ _=>rfl,fun _ _=>rfl,fun _ _ _=>by simp,fun _ _ _=>rfl,fun _ _ _ _=>rfl⟩
theorem tkT {listed:Array Bool} (i:Nat) {oi:Oper} {v:Value} {fuel:Nat} {a:Act} {w:World} (T:Tl md ops n listed) (hS:S w) (hi:ops.toList[i]?=some oi) (hy:∀ w,S w→(execOp a.eval oi).run P w=.ok (.value v) w)
 (h:Tl md ops n (listed.setIfInBounds i true)→wpAnyE P md ops Q S n fuel (listed.setIfInBounds i true) (a.put oi.dst v) w)
 (hw:Region.wanted oi (yielded ops a.tmps)=true:=by rfl) (hQ:∀ c a w,Q (.panic c) (a.put oi.dst v) w→Q (.panic c) a w:=by exact fun _ _ _ h=>h)
 (hin:i<n:=by decide) (hf:Region.free md ops listed i=true:=by kernel_rfl) (hr:(Region.ready md ops listed).contains i=true:=by kernel_rfl):wpAnyE P md ops Q S n (fuel+1) listed a w :=
 takeE i T hi hin hf hr hQ hS (Or.inl ⟨hw,hy⟩) h
theorem tkU {listed:Array Bool} (i:Nat) {oi:Oper} {fuel:Nat} {a:Act} {w:World} (T:Tl md ops n listed) (hS:S w) (hi:ops.toList[i]?=some oi)
 (h:Tl md ops n (listed.setIfInBounds i true)→wpAnyE P md ops Q S n fuel (listed.setIfInBounds i true) (a.put oi.dst undef) w)
 (hw:Region.wanted oi (yielded ops a.tmps)=false:=by rfl) (hQ:∀ c a w,Q (.panic c) (a.put oi.dst undef) w→Q (.panic c) a w:=by exact fun _ _ _ h=>h)
 (hin:i<n:=by decide) (hf:Region.free md ops listed i=true:=by kernel_rfl) (hr:(Region.ready md ops listed).contains i=true:=by kernel_rfl):wpAnyE P md ops Q S n (fuel+1) listed a w :=
 takeE i T hi hin hf hr hQ hS (Or.inr ⟨hw,rfl⟩) h
theorem oneE {listed:Array Bool} (i:Nat) {o:Oper} {fuel:Nat} {a:Act} {w:World} (hi:ops.toList[i]?=some o) (hr:Region.ready md ops listed=[i])
 (h:∀ K':Act→World→Prop,Shut (∀ a w,(i<n→S w)→wpAnyE P md ops Q S n fuel (listed.setIfInBounds i true) a w→K' a w)→if Region.wanted o (yielded ops a.tmps)=true then Oper.wp P o a w K' Q else K' (a.put o.dst undef) w) :
 wpAnyE P md ops Q S n (fuel+1) listed a w:=by
 have hi':ops[i]?=some o:=by rw [←Array.getElem?_toList];exact hi
 refine ⟨fun h0=>absurd (hr ▸ h0) (by simp),fun j hj=>?_⟩
 rw [hr] at hj
 obtain rfl:=List.mem_singleton.1 hj
 exact wpOp_step hi' (fun K' hK=>h K' (fun a w hS hW=>hK a w ⟨hS,hW⟩))
theorem doneE {listed:Array Bool} {a:Act} {w:World} (hr:Region.ready md ops listed=[]) (h:Q .normal a w):∀ fuel,wpAnyE P md ops Q S n fuel listed a w
 | 0=>⟨hr,h⟩
 | _+1=>⟨fun _=>h,by rw [hr];simp⟩
theorem regionE (n:Nat) {id:Nat} {a:Act} {w:World} (S:World→Prop) (hm:P.follows .mixedOrders=true) (hs:Region.sinkB .any ops n=true) (hc:Region.chainB .any ops n=true) (hn:decide (n<ops.size)=true) (hsel:Region.noSelect ops=true)
 (hS:S w.drew) (h:S w.drew→Tl .any ops n (Array.replicate ops.size false)→wpAnyE P .any ops Q S n ops.size (Array.replicate ops.size false) a w.drew):(Code.region id ops true).wp P Q a w :=
 wp_region_any hm (wpAny_of_E _ _ _ _ (h hS ⟨hs,hc,of_decide_eq_true hn,hsel,⟨by simp,(fun j oj _ hl=>by rw [getD_replicate_false] at hl;cases hl),(fun t _ ht=>by simp [ht])⟩⟩))
end
end
end Go.Proofs.YtekajggjoeimoaaGreatDoor
