/- A part of the proof of DiskSaves. No condition of its own. -/
import Derived.Test.YtekajggjoeimoaaGreatDoorSl
import Derived.Test.YtekajggjoeimoaaGreatDoorSg
import Derived.Test.YtekajggjoeimoaaGreatDoorSj
set_option linter.unusedVariables false
namespace Go.Proofs.YtekajggjoeimoaaGreatDoor
section
open Go.RowKit
structure PE where
 src:Nat
 dst:Nat
 born:Nat
def PE.val (x:PE):Value:=.pointer (some ⟨x.dst,0,none⟩)
def PE.key (x:PE):Value:=.pointer (some ⟨x.src,0,none⟩)
def PE.ent (x:PE):MapEntry:={key:=x.key,val:=x.val,born:=x.born}
def lookE (f:Nat):List PE→Nat→Option (Nat × PE)
 | [],_=>none
 | x::l,i=>if x.src=f then some (i,x) else lookE f l (i+1)
def IsCells (w:World) (f:Nat):Prop:=∃ cs t,w.heap[f]?=some (.cells cs t (0,0))
theorem equal_ptr (W:World) {f g:Nat} (hf:IsCells W f) (hg:IsCells W g) :
 (Op.equal 98 (.pointer (some ⟨f,0,none⟩)) (.pointer (some ⟨g,0,none⟩))).run Tryz.prog W=.ok (decide (f=g)) W:=by
 obtain ⟨cf,tf,hf⟩:=hf
 obtain ⟨cg,tg,hg⟩:=hg
 have h:=ptr_eq W hf hg
 simp only [binOp] at h
 cases e:(Op.equal 98 (.pointer (some ⟨f,0,none⟩)) (.pointer (some ⟨g,0,none⟩))).run Tryz.prog W with
 | ok b w1=>rw [Sem.run_bind,e] at h;simp [Result.andThen] at h;rw [h.1,h.2]
 | halt c w1=>rw [Sem.run_bind,e] at h;simp [Result.andThen] at h
theorem asking_ptr (W:World) {f:Nat} (hf:IsCells W f):∀ (l:List PE),(∀ x∈l,IsCells W x.src)→∀ i,(Instr.findAsking 98 (.pointer (some ⟨f,0,none⟩)) (l.map PE.ent) i).run Tryz.prog W=.ok ((lookE f l i).map fun r=>(r.1,r.2.val)) W
 | [],_,i=>rfl
 | x::l,h,i=>by
  have he:=equal_ptr W hf (h x (.head _))
  simp only [List.map_cons,Instr.findAsking,PE.ent,PE.key,Sem.run_bind,he,Result.andThen,lookE]
  by_cases e:x.src=f
  ·rw [if_pos e,decide_eq_true e.symm];rfl
  ·rw [if_neg e,decide_eq_false (fun h=>e h.symm)]
   exact asking_ptr W hf l (fun y hy=>h y (.tail _ hy)) (i+1)
theorem find_ptr (W:World) {f:Nat} (hf:IsCells W f) (l:List PE) (h:∀ x∈l,IsCells W x.src):(Instr.findKey 98 (.pointer (some ⟨f,0,none⟩)) (l.map PE.ent)).run Tryz.prog W=.ok ((lookE f l 0).map fun r=>(r.1,r.2.val)) W:=by
 cases l with
 | nil=>simp [Instr.findKey,run_underlying Tryz.underlying98,Instr.findNow,Result.andThen,lookE]
 | cons x l =>
  have ha:=asking_ptr W hf (x::l) h 0
  simp only [Instr.findKey,Sem.run_bind,run_underlying Tryz.underlying98,Result.andThen]
  rw [show Instr.findNow _ _ ((x::l).map PE.ent) 0=none from rfl]
  exact ha
theorem chkP (b:Bool) (f:Nat) (w:World):(Instr.checkKey b 10000 98 (.pointer (some ⟨f,0,none⟩))).run Tryz.prog w=.ok () w:=by
 have:∀ q,(Instr.checkKey b (q+1) 98 (.pointer (some ⟨f,0,none⟩))).run Tryz.prog w=.ok () w:=fun q=>by
  simp [Instr.checkKey,run_underlying Tryz.underlying98]
 exact this 9999
section
variable {w:World} {M f:Nat} {l:List PE} {clock:Nat}
theorem run_lookE (hM:w.heap[M]?=some (.map (l.map PE.ent).toArray clock)) (hf:IsCells w f) (h:∀ x∈l,IsCells w x.src) :
 (Instr.lookup 97 (.map (some M)) (.pointer (some ⟨f,0,none⟩)) false).run Tryz.prog w=.ok (match lookE f l 0 with
  | some r=>r.2.val
  | none=>.pointer none) w:=by
 have hr:=find_ptr w hf l h
 cases hl:lookE f l 0 with
 | none =>
  rw [hl] at hr
  simp [Instr.lookup,run_underlying Tryz.underlying97,getMap hM,chkP,hr,zeroPk,Result.andThen]
 | some r =>
  rw [hl] at hr
  simp [Instr.lookup,run_underlying Tryz.underlying97,getMap hM,chkP,hr,Result.andThen]
theorem run_putE (hM:w.heap[M]?=some (.map (l.map PE.ent).toArray clock)) (hf:IsCells w f) (h:∀ x∈l,IsCells w x.src) (hl:lookE f l 0=none) (g:Nat) :
 ∃ w1,(Instr.mapUpdate 97 (.map (some M)) (.pointer (some ⟨f,0,none⟩)) (.pointer (some ⟨g,0,none⟩))).run Tryz.prog w=.ok () w1∧MapTo w w1 M ((l++[PE.mk f g clock]).map PE.ent).toArray (clock+1):=by
 obtain ⟨w1,h1,h2⟩:=setMap (P:=Tryz.prog) (es':=((l++[PE.mk f g clock]).map PE.ent).toArray) (clock':=clock+1) hM
 refine ⟨w1,?_,h2⟩
 have hr:=find_ptr w hf l h
 rw [hl] at hr
 have he:(l.map PE.ent).toArray.push {key:=.pointer (some ⟨f,0,none⟩),val:=.pointer (some ⟨g,0,none⟩),born:=clock}=((l++[PE.mk f g clock]).map PE.ent).toArray:=by
  simp [PE.ent,PE.key,PE.val]
 simp only [Instr.mapUpdate,Sem.run_bind,run_underlying Tryz.underlying97,getMap hM,chkP,hr,Result.andThen,Option.map_none,Sem.run_pure,he,h1]
end
theorem lookE_none {f:Nat}:∀ {l:List PE} {i:Nat},lookE f l i=none↔∀ x∈l,x.src≠f
 | [],i=>by simp [lookE]
 | x::l,i=>by
  unfold lookE
  by_cases e:x.src=f
  ·simp [e]
  ·rw [if_neg e,lookE_none]
   simp [e]
theorem lookE_some {f:Nat}:∀ {l:List PE} {i:Nat} {r:Nat × PE},lookE f l i=some r→r.2∈l∧r.2.src=f
 | [],i,r,h=>by cases h
 | x::l,i,r,h=>by
  unfold lookE at h
  by_cases e:x.src=f
  ·rw [if_pos e] at h;cases h;exact ⟨.head _,e⟩
  ·rw [if_neg e] at h
   exact ⟨.tail _ (lookE_some h).1,(lookE_some h).2⟩
theorem lookE_app {f g ck:Nat}:∀ {l:List PE} {i:Nat},lookE f l i=none→lookE f (l++[PE.mk f g ck]) i=some (i+l.length,PE.mk f g ck)
 | [],i,_=>by simp [lookE]
 | x::l,i,h=>by
  unfold lookE at h
  by_cases e:x.src=f
  ·rw [if_pos e] at h;cases h
  ·rw [if_neg e] at h
   rw [List.cons_append,lookE,if_neg e,lookE_app h]
   simp;omega
theorem IsCells.ne {w:World} {k O:Nat} {es:Array MapEntry} {ck:Nat} (h:IsCells w k) (hM:w.heap[O]?=some (.map es ck)):k≠O:=fun e=>by
 subst e
 obtain ⟨cs,t,h⟩:=h
 rw [hM] at h
 cases h
theorem IsCells.mapTo {w w1:World} {k O:Nat} {es:Array MapEntry} {ck:Nat} (h:IsCells w k) (hm:MapTo w w1 O es ck) (hk:k≠O):IsCells w1 k:=by
 obtain ⟨cs,t,h⟩:=h
 exact ⟨cs,t,(hm.block k hk).trans h⟩
theorem IsCells.below {w w1:World} {k:Nat} (h:IsCells w k) (hb:Below w.heap.size w w1):IsCells w1 k:=by
 obtain ⟨cs,t,h⟩:=h
 exact ⟨cs,t,(hb.block k (Array.getElem?_eq_some_iff.1 h).1).trans h⟩
end
section
open Go.RowKit
set_option maxHeartbeats 1000000 in
set_option maxRecDepth 100000 in
theorem twin_old {w:World} {ob O f ck:Nat} {T:List PE} (hc:w.cell? ⟨ob,0,none⟩=some (.map (some O))) (hM:w.heap[O]?=some (.map (T.map PE.ent).toArray ck)) (hf:IsCells w f) (h:∀ x∈T,IsCells w x.src) {j:Nat} {y:PE} (hl:lookE f T 0=some (j,y)) :
 Calls Tryz.prog 52 #[.pointer (some ⟨f,0,none⟩),.pointer (some ⟨ob,0,none⟩)] w fun e w'=>e=.returned (.pointer (some ⟨y.dst,0,none⟩))∧w'=w:=by
 have hr:=run_lookE hM hf h
 rw [hl] at hr
 simp only [PE.val] at hr
 go_enter Tryz.func52,Tryz.ntmps52
 go_wp2
 go_ret
 exact ⟨rfl,rfl⟩
set_option maxHeartbeats 4000000 in
set_option maxRecDepth 100000 in
theorem twin_new {X:Nat→Prop} {w:World} {ob O f ck:Nat} {T:List PE} (hc:w.cell? ⟨ob,0,none⟩=some (.map (some O))) (hM:w.heap[O]?=some (.map (T.map PE.ent).toArray ck)) (h:∀ x∈T,IsCells w x.src) (hl:lookE f T 0=none)
 {As An:Option Addr} {cs cn:Nat} {ls ln:List ByteArray} (hf:Blk w f 103 #[.slice As ls.length cs,.slice An ln.length cn]) (hs:RowX X w 101 1 (.slice As ls.length cs) ls.length (strs ls)) (hn:RowX X w 101 1 (.slice An ln.length cn) ln.length (strs ln)) (hls:ls.length≤5000) (hln:ln.length≤5000) :
 Calls Tryz.prog 52 #[.pointer (some ⟨f,0,none⟩),.pointer (some ⟨ob,0,none⟩)] w fun e w'=>∃ g A1 c1 A2 c2 wa wb wc,e=.returned (.pointer (some ⟨g,0,none⟩))∧wa.ownsRow w.heap.size 101 1 (.slice A1 ls.length c1) ls.length (strs ls)∧Below w.heap.size w wa∧wb.ownsRow wa.heap.size 101 1 (.slice A2 ln.length c2) ln.length (strs ln)∧Below wa.heap.size wa wb ∧
  Blk wc g 103 #[.slice A1 ls.length c1,.slice A2 ln.length c2]∧g=wb.heap.size∧Below wb.heap.size wb wc∧MapTo wc w' O ((T++[PE.mk f g ck]).map PE.ent).toArray (ck+1):=by
 have hr:=run_lookE hM ⟨_,_,hf⟩ h
 rw [hl] at hr
 have hO:=(Array.getElem?_eq_some_iff.1 hM).1
 have hk:∀ {W0:World} {k:Nat} {o:Obj},Below w.heap.size w W0→w.heap[k]?=some o→W0.heap[k]?=some o:=fun hb hk=>(hb.block _ (Array.getElem?_eq_some_iff.1 hk).1).trans hk
 have kx:∀ W0,Below w.heap.size w W0→W0.cell? ⟨ob,0,none⟩=some (.map (some O))∧W0.cell? ⟨f,0,none⟩=some (.slice As ls.length cs)∧W0.cell? ⟨f,1,none⟩=some (.slice An ln.length cn):=fun W0 hb =>
  ⟨(World.cell?_of_block (w:=w) (hb.block ob (World.block_lt_of_cell? w _ hc))).trans hc,Blk.cell (hk hb hf) 0,Blk.cell (hk hb hf) 1⟩
 have hC1:∀ W0,Below w.heap.size w W0→Calls Tryz.prog 53 #[.slice As ls.length cs] W0 fun e w'=>∃ A' c',e=.returned (.slice A' ls.length c')∧w'.ownsRow W0.heap.size 101 1 (.slice A' ls.length c') ls.length (strs ls)∧Below W0.heap.size W0 w':=fun W0 hb=>Clone_row (hs.keep (fun k cs _ _ h=>hk hb h) (fun _ h=>h)) hls
 have hC2:∀ W0,Below w.heap.size w W0→Calls Tryz.prog 53 #[.slice An ln.length cn] W0 fun e w'=>∃ A' c',e=.returned (.slice A' ln.length c')∧w'.ownsRow W0.heap.size 101 1 (.slice A' ln.length c') ln.length (strs ln)∧Below W0.heap.size W0 w':=fun W0 hb=>Clone_row (hn.keep (fun k cs _ _ h=>hk hb h) (fun _ h=>h)) hln
 go_enter Tryz.func52,Tryz.ntmps52
 go_wp2
 have hnO:ob≠O:=fun e=>by
  subst e
  simp [World.cell?,hM] at hc
 have hfO:f≠O:=fun e=>by
  subst e
  have h1:w.heap[f]?=some (.cells #[.slice As ls.length cs,.slice An ln.length cn] 103 (0,0)):=hf
  rw [hM] at h1
  cases h1
 have HH:=Lib.hid (And.intro hnO (And.intro hfO (And.intro hO (And.intro hC1 (And.intro hC2 (And.intro kx h))))))
 clear hC1 hC2 hO hnO hfO
 go_region_held3 (fun W0=>W0.cell? ⟨ob,0,none⟩=some (.map (some O))∧W0.cell? ⟨f,0,none⟩=some (.slice As ls.length cs)∧W0.cell? ⟨f,1,none⟩=some (.slice An ln.length cn))
  (first
   | exact kx _ (Below.refl _ w).drew
   | exact kx _ hb1
   | exact kx _ hb2
   | exact kx _ hb3
   | exact kx3)
  (first
   | ((go_at_call 53;refine (HH.out.2.2.2.1 _ (Below.refl _ w).drew).mono ?_;rintro e w1 ⟨A1,c1,rfl,ho1,hb1'⟩;have hb1:Below w.heap.size w w1:=(Below.refl _ w).drew.trans hb1'))
   | ((go_at_call 53;refine (HH.out.2.2.2.2.1 _ hb1).mono ?_;rintro e w2 ⟨A2,c2,rfl,ho2,hb2'⟩;have hb2:Below w.heap.size w w2:=hb1.trans (hb2'.mono hb1.size);have hb3:Below w.heap.size w (w2.alloc (.cells #[.slice A1 ls.length c1,.slice A2 ln.length c2] 103)):=hb2.alloc hb2.size _;obtain ⟨w4,hr4,hm4⟩:=run_putE (hk hb3 hM) ⟨_,_,hk hb3 hf⟩ (fun x hx=>by obtain ⟨cs,t,hh⟩:=HH.out.2.2.2.2.2.2 x hx;exact ⟨cs,t,hk hb3 hh⟩) hl w2.heap.size;have kx3:w4.cell? ⟨ob,0,none⟩=some (.map (some O))∧w4.cell? ⟨f,0,none⟩=some (.slice As ls.length cs)∧w4.cell? ⟨f,1,none⟩=some (.slice An ln.length cn):=⟨(hm4.cell HH.out.1).trans (kx _ hb3).1,(hm4.cell HH.out.2.1).trans (kx _ hb3).2.1,(hm4.cell HH.out.2.1).trans (kx _ hb3).2.2⟩)))
 have hT4:∀ x∈T++[PE.mk f w2.heap.size ck],IsCells w4 x.src:=fun x hx=>by
  have hx':IsCells w x.src:=by
   rcases List.mem_append.1 hx with hx | hx
   ·exact HH.out.2.2.2.2.2.2 x hx
   ·simp at hx;subst hx;exact ⟨_,_,hf⟩
  exact (hx'.below hb3).mapTo hm4 (hx'.ne hM)
 have hr5:=run_lookE hm4.map (hT4 ⟨f,w2.heap.size,ck⟩ (by simp)) hT4
 rw [lookE_app hl] at hr5
 simp only [PE.val] at hr5
 have hk4:=kx3.1
 clear hT4
 go_wp2
 go_ret
 exact ⟨_,A1,c1,A2,c2,w1,w2,_,rfl,ho1,hb1,ho2,hb2',Blk.new w2 _ _,rfl,(Below.refl _ w2).alloc (Nat.le_refl _) _,hm4⟩
end
section
open Go.RowKit
section
variable {X X':Nat→Prop} {w w' w1:World} {fs:List Nat} {V:Nat→Bool→Value} {C:Nat→Bool→List ByteArray}
theorem FilesV.put (h:FilesV X w fs V C) (hX:∀ k,X k→X' k) (hs:Same FT X w w') {g:Nat} {v:Bool→Value} {l:Bool→List ByteArray} (hg:Blk w' g 103 #[v false,v true]) (hgX:X' g) (hgn:g∉fs)
 (hr:∀ b,RowX X' w' 101 1 (v b) (l b).length (strs (l b))) (hfr:∀ b k,(v b).ownBlock=some k→∀ f∈fs,∀ a,(V f a).ownBlock≠some k) (hap:∀ k,(v false).ownBlock=some k→(v true).ownBlock≠some k) :
 FilesV X' w' (g::fs) (fun f b=>if f=g then v b else V f b) (fun f b=>if f=g then l b else C f b):=by
 have h1:=h.keep hX hs
 have hne:∀ f∈fs,f≠g:=fun f hf e=>hgn (e ▸ hf)
 refine ⟨fun f hf=>?_,fun f hf=>?_,fun f hf b=>?_,fun f hf f2 hf2 a b k hk hk2=>?_⟩
 ·rcases List.mem_cons.1 hf with rfl | hf
  ·simpa using hg
  ·simpa [hne f hf] using h1.blk f hf
 ·rcases List.mem_cons.1 hf with rfl | hf
  ·exact hgX
  ·exact h1.inX f hf
 ·rcases List.mem_cons.1 hf with rfl | hf
  ·simpa using hr b
  ·simpa [hne f hf] using h1.row f hf b
 ·rcases List.mem_cons.1 hf with e | hf' <;> rcases List.mem_cons.1 hf2 with e2 | hf2'
  ·refine ⟨e.trans e2.symm,?_⟩
   simp only [e,e2,if_true] at hk hk2
   cases a <;> cases b
   ·rfl
   ·exact absurd hk2 (hap k hk)
   ·exact absurd hk (hap k hk2)
   ·rfl
  ·simp only [e,if_true,hne f2 hf2',if_false] at hk hk2
   exact absurd hk2 (hfr a k hk f2 hf2' b)
  ·simp only [e2,if_true,hne f hf',if_false] at hk hk2
   exact absurd hk (hfr b k hk2 f hf' a)
  ·simp only [hne f hf',hne f2 hf2',if_false] at hk hk2
   exact h.inj f hf' f2 hf2' a b k hk hk2
structure TW (w0:World) (fs:List Nat) (C:Nat→Bool→List ByteArray) (W:World) (ob O:Nat) (T:List PE) (ck:Nat):Prop where
 bel:Below w0.heap.size w0 W
 cell:Blk W ob 97 #[.map (some O)]
 map:W.heap[O]?=some (.map (T.map PE.ent).toArray ck)
 lo:w0.heap.size≤ob∧w0.heap.size≤O
 src:∀ x∈T,x.src∈fs
 one:(T.map PE.src).Nodup
 two:(T.map PE.dst).Nodup
 files:∃ V' C',FilesV (fun k=>w0.heap.size≤k) W (T.map PE.dst) V' C'∧∀ x∈T,∀ b,C' x.dst b=C x.src b
theorem TW.below {w0 W W':World} {ob O ck:Nat} {T:List PE} (h:TW w0 fs C W ob O T ck) (hb:Below W.heap.size W W'):TW w0 fs C W' ob O T ck:=by
 obtain ⟨V',C',hf,hc⟩:=h.files
 exact ⟨h.bel.trans (hb.mono h.bel.size),(hb.block ob h.cell.lt).trans h.cell,(hb.block O (Array.getElem?_eq_some_iff.1 h.map).1).trans h.map,h.lo,h.src,h.one,h.two,V',C',hf.keep (fun _ h=>h) (Same.of_below hb),hc⟩
theorem TW.off {w0 W W':World} {ob O ck:Nat} {T:List PE} {Y:Nat→Prop} (h:TW w0 fs C W ob O T ck) (hf:Fr Y W W') (hY:∀ k,Y k→w0.heap.size≤k∧k≠ob∧k≠O∧∀ cs t,FT t→W.heap[k]?≠some (.cells cs t (0,0))):TW w0 fs C W' ob O T ck:=by
 obtain ⟨V',C',hff,hc⟩:=h.files
 refine ⟨?_,(hf.block ob h.cell.lt (fun hy=>(hY ob hy).2.1 rfl)).trans h.cell,(hf.block O (Array.getElem?_eq_some_iff.1 h.map).1 (fun hy=>(hY O hy).2.2.1 rfl)).trans h.map,h.lo,h.src,h.one,h.two,V',C',hff.keep (fun _ h=>h) (Same.of_fr hf (fun k _ hy cs t ht=>(hY k hy).2.2.2 cs t ht)),hc⟩
 exact h.bel.trans (hf.below h.bel.size (fun k hk=>(hY k hk).1))
theorem TW.cells {w0 W:World} {ob O ck:Nat} {T:List PE} (h:TW w0 fs C W ob O T ck) (hsrc:FilesV X w0 fs V C):∀ f∈fs,IsCells W f:=fun f hf =>
 ⟨_,_,(h.bel.block f (hsrc.blk f hf).lt).trans (hsrc.blk f hf)⟩
set_option maxHeartbeats 1000000 in
theorem twin_any {w0 W:World} {ob O ck f:Nat} {T:List PE} (h:TW w0 fs C W ob O T ck) (hsrc:FilesV X w0 fs V C) (hlen:∀ f∈fs,∀ b,(C f b).length≤5000) (hf:f∈fs) :
 Calls Tryz.prog 52 #[.pointer (some ⟨f,0,none⟩),.pointer (some ⟨ob,0,none⟩)] W fun e W'=>∃ g T' ck',e=.returned (.pointer (some ⟨g,0,none⟩))∧TW w0 fs C W' ob O T' ck'∧(∃ T2,T'=T++T2)∧(∃ x∈T',x.src=f∧x.dst=g)∧Fr (fun k=>k=O) W W':=by
 have hcs:=h.cells hsrc
 have hcT:∀ x∈T,IsCells W x.src:=fun x hx=>hcs _ (h.src x hx)
 cases hl:lookE f T 0 with
 | some r =>
  obtain ⟨j,y⟩:=r
  refine (twin_old (h.cell.cell 0) h.map (hcs f hf) hcT hl).mono ?_
  rintro e W' ⟨rfl,rfl⟩
  have hy:=lookE_some hl
  exact ⟨_,T,ck,rfl,h,⟨[],by simp⟩,⟨y,hy.1,hy.2,rfl⟩,Fr.refl _ _⟩
 | none =>
  have hb0:=hsrc.blk f hf
  have hr0:=hsrc.row f hf false
  have hr1:=hsrc.row f hf true
  obtain ⟨As,cs,e0⟩:=hr0.form
  obtain ⟨An,cn,e1⟩:=hr1.form
  rw [e0] at hr0 hb0
  rw [e1] at hr1 hb0
  have up:∀ {k:Nat} {o:Obj},w0.heap[k]?=some o→W.heap[k]?=some o:=fun hk=>(h.bel.block _ (Array.getElem?_eq_some_iff.1 hk).1).trans hk
  refine (twin_new (h.cell.cell 0) h.map hcT hl (up hb0) (hr0.keep (fun k cs _ _ hk=>up hk) (fun _ h=>h)) (hr1.keep (fun k cs _ _ hk=>up hk) (fun _ h=>h)) (hlen f hf false) (hlen f hf true)).mono ?_
  rintro e W' ⟨g,A1,c1,A2,c2,wa,wb,wc,rfl,ho1,hba,ho2,hbb,hg,eg,hbc,hm⟩
  have bab:Below W.heap.size W wb:=hba.trans (hbb.mono hba.size)
  have bac:Below W.heap.size W wc:=bab.trans (hbc.mono bab.size)
  have hO:=(Array.getElem?_eq_some_iff.1 h.map).1
  have s1:=hba.size
  have s2:=hbb.size
  have s3:=hbc.size
  have s0:=h.bel.size
  obtain ⟨V',C',hF,hC⟩:=h.files
  have hgO:g≠O:=by omega
  have l1:=fun k hk=>ho1.lt k hk
  have l2:=fun k hk=>ho2.lt k hk
  have hfr:Fr (fun k=>k=O) W W':=(Fr.of_below bac).trans hm.fr
  have hsame:Same FT (fun k=>w0.heap.size≤k) W W':=Same.of_fr hfr (fun k _ e cs t _=>by rw [e,h.map];simp)
  have hgn:g∉T.map PE.dst:=fun hx=>by
   have:=(hF.blk g hx).lt
   omega
  have own1:wc.ownsRow 0 101 1 (.slice A1 (C f false).length c1) (C f false).length (strs (C f false)):=own_base (own_below' (own_below' ho1 hbb) hbc)
  have own2:wc.ownsRow 0 101 1 (.slice A2 (C f true).length c2) (C f true).length (strs (C f true)):=own_base (own_below' ho2 hbc)
  have rows:∀ b,RowX (fun k=>w0.heap.size≤k) W' 101 1 (if b=true then .slice A2 (C f true).length c2 else .slice A1 (C f false).length c1) (C f b).length (strs (C f b)):=fun b=>by
   cases b with
   | false =>
    have hx:RowX (fun k=>W.heap.size≤k∧k≠O) wc 101 1 (.slice A1 (C f false).length c1) (C f false).length (strs (C f false)):=RowX.of_own own1 (fun k hk=>⟨(l1 k hk).1,by have:=(l1 k hk).1;omega⟩)
    exact hx.keep (fun k cs hk _ hb=>(hm.block k hk.2).trans hb) (fun k hk=>by have:=hk.1;omega)
   | true =>
    have hx:RowX (fun k=>W.heap.size≤k∧k≠O) wc 101 1 (.slice A2 (C f true).length c2) (C f true).length (strs (C f true)):=RowX.of_own own2 (fun k hk=>⟨by have:=(l2 k hk).1;omega,by have:=(l2 k hk).1;omega⟩)
    exact hx.keep (fun k cs hk _ hb=>(hm.block k hk.2).trans hb) (fun k hk=>by have:=hk.1;omega)
  have hput:=hF.put (w':=W') (X':=fun k=>w0.heap.size≤k) (fun _ h=>h) hsame (g:=g) (v:=fun b=>if b=true then .slice A2 (C f true).length c2 else .slice A1 (C f false).length c1) (l:=C f)
   ((hm.block g hgO).trans hg) (by show w0.heap.size≤g;omega) hgn rows
   (fun b k hk f2 hf2 a hk2=>by
    have h1:=(hF.row f2 hf2 a).lt hk2
    cases b with
    | false=>have:=(l1 k hk).1;omega
    | true=>have:=(l2 k hk).1;omega)
   (fun k hk hk2=>by
    have h1:=(l1 k hk).2
    have h2:=(l2 k hk2).1
    omega)
  have hold:∀ x∈T,x.dst≠g:=fun x hx e=>hgn (List.mem_map.2 ⟨x,hx,e⟩)
  have hsn:f∉T.map PE.src:=fun hx=>by
   obtain ⟨x,hx,e⟩:=List.mem_map.1 hx
   exact lookE_none.1 hl x hx e
  have hp2:=hput.sub (fs':=(T++[PE.mk f g ck]).map PE.dst) (fun k hk=>by
   simp at hk ⊢
   rcases hk with hk | hk
   ·exact .inr hk
   ·exact .inl hk)
  refine ⟨g,T++[PE.mk f g ck],ck+1,rfl,⟨h.bel.trans ((bac.mono h.bel.size).trans ?_),?_,hm.map,h.lo,fun x hx=>?_,?_,?_,_,_,hp2,fun x hx b=>?_⟩,⟨_,rfl⟩,⟨PE.mk f g ck,by simp,rfl,rfl⟩,hfr⟩
  ·have:=hm.fr
   exact ⟨this.os,this.tape,this.output,this.size,fun k hk=>hm.block k (by have:=h.lo.2;omega)⟩
  ·have hne:ob≠O:=fun e=>by
    have h1:W.heap[ob]?=some (.cells #[.map (some O)] 97 (0,0)):=h.cell
    rw [e,h.map] at h1
    cases h1
   exact (hm.block ob hne).trans ((bac.block ob h.cell.lt).trans h.cell)
  ·rcases List.mem_append.1 hx with hx | hx
   ·exact h.src x hx
   ·simp at hx;subst hx;exact hf
  ·rw [List.map_append,List.nodup_append]
   refine ⟨h.one,by simp,fun a ha b hb e=>?_⟩
   simp at hb
   subst hb
   exact hsn (e ▸ ha)
  ·rw [List.map_append,List.nodup_append]
   refine ⟨h.two,by simp,fun a ha b hb e=>?_⟩
   simp at hb
   subst hb
   exact hgn (e ▸ ha)
  ·rcases List.mem_append.1 hx with hx | hx
   ·simp [hold x hx,hC x hx b]
   ·simp at hx;subst hx;simp
end
end
section
open Go.RowKit
structure Half (W:World) (M:Nat) (l:List DE) (T:List PE) (D:List DE) (k:Nat):Prop where
 map:W.heap[M]?=some (.map (D.map DE.ent).toArray k)
 ok:MapOK D k
 names:(D.map DE.nm).Perm (l.map DE.nm)
 tw:∀ x∈D,∃ y∈l,y.nm=x.nm∧∃ t∈T,t.src=y.f∧t.dst=x.f
theorem look_none_of {nm:ByteArray}:∀ {l:List DE} {i:Nat},nm∉l.map DE.nm→look nm l i=none
 | [],i,_=>rfl
 | x::l,i,h=>by
  unfold look
  rw [if_neg (fun e=>h (by simp [e]))]
  exact look_none_of (fun h'=>h (by simp at h' ⊢;exact .inr h'))
theorem Half.nil {W:World} {M:Nat} {T:List PE} (h:W.heap[M]?=some (.map #[] 0)):Half W M [] T [] 0:=⟨h,⟨by simp,by simp,by simp⟩,by simp,by simp⟩
theorem Half.keep {W W':World} {M k:Nat} {l D:List DE} {T T':List PE} (h:Half W M l T D k) (hM:W'.heap[M]?=W.heap[M]?) (hT:∀ t∈T,t∈T'):Half W' M l T' D k :=
 ⟨hM.trans h.map,h.ok,h.names,fun x hx=>by obtain ⟨y,hy,e,t,ht,h1,h2⟩:=h.tw x hx;exact ⟨y,hy,e,t,hT t ht,h1,h2⟩⟩
theorem Half.look {W:World} {M k:Nat} {l D:List DE} {T:List PE} (h:Half W M l T D k) {nm:ByteArray} (hn:nm∉l.map DE.nm):look nm D 0=none:=look_none_of (fun hx=>hn (h.names.mem_iff.1 hx))
theorem Half.push {W W':World} {M k g:Nat} {l l2 D:List DE} {T:List PE} {x:DE} (h:Half W M l T D k) (hn:x.nm∉l.map DE.nm) (hl:l2.Perm (x::l)) (hm:MapTo W W' M ((D++[DE.mk x.nm g k]).map DE.ent).toArray (k+1)) (hg:∃ t∈T,t.src=x.f∧t.dst=g):Half W' M l2 T (D++[DE.mk x.nm g k]) (k+1):=by
 refine ⟨hm.map,⟨fun y hy=>?_,?_,?_⟩,?_,fun y hy=>?_⟩
 ·rcases List.mem_append.1 hy with hy | hy
  ·exact Nat.lt_succ_of_lt (h.ok.born y hy)
  ·simp at hy;subst hy;exact Nat.lt_succ_self _
 ·rw [List.pairwise_append]
  refine ⟨h.ok.order,by simp,fun a ha b hb=>?_⟩
  simp at hb;subst hb
  exact h.ok.born a ha
 ·rw [List.map_append,List.nodup_append]
  refine ⟨h.ok.nodup,by simp,fun a ha b hb e=>?_⟩
  simp at hb;subst hb;subst e
  exact hn (h.names.mem_iff.1 ha)
 ·rw [List.map_append]
  have h1:(l2.map DE.nm).Perm (x.nm::l.map DE.nm):=hl.map _
  refine List.Perm.trans ?_ h1.symm
  exact (List.perm_append_comm).trans (h.names.cons x.nm)
 ·rcases List.mem_append.1 hy with hy | hy
  ·obtain ⟨z,hz,e⟩:=h.tw y hy
   exact ⟨z,hl.mem_iff.2 (.tail _ hz),e⟩
  ·simp at hy;subst hy
   exact ⟨x,hl.mem_iff.2 (.head _),rfl,hg⟩
theorem de_inj:∀ {l:List DE},(l.map DE.nm).Nodup→∀ {x y:DE},x∈l→y∈l→x.nm=y.nm→x=y
 | [],_,x,y,hx,_,_=>by cases hx
 | z::l,hn,x,y,hx,hy,e=>by
  obtain ⟨h1,h2⟩:=List.nodup_cons.1 hn
  rcases List.mem_cons.1 hx with e1 | hx <;> rcases List.mem_cons.1 hy with e2 | hy
  ·rw [e1,e2]
  ·exact absurd (List.mem_map.2 ⟨y,hy,by rw [←e,e1]⟩) h1
  ·exact absurd (List.mem_map.2 ⟨x,hx,by rw [e,e2]⟩) h1
  ·exact de_inj h2 hx hy e
theorem seen_fresh {l:List DE} {ck:Nat} {seen:Array Nat} {x:DE} (ho:MapOK l ck) (hx:x∈l) (hs:seen.contains x.born=false):x.nm∉(seenL l seen).map DE.nm:=fun h=>by
 obtain ⟨y,hy,e⟩:=List.mem_map.1 h
 have h2:=List.mem_filter.1 hy
 have hxy:y=x:=de_inj ho.nodup h2.1 hx e
 subst hxy
 rw [hs] at h2
 cases h2.2
theorem Half.lkF {W:World} {M k:Nat} {l D:List DE} {T:List PE} (h:Half W M l T D k) {fb:Nat→Nat} (hl:(l.map DE.nm).Nodup) (hT:∀ t∈T,t.dst=fb t.src) (x:ByteArray):lkF x D=(lkF x l).map fb:=by
 cases e:Go.Proofs.YtekajggjoeimoaaGreatDoor.lkF x D with
 | none =>
  have h1:x∉D.map DE.nm:=fun hx=>by
   obtain ⟨y,hy,rfl⟩:=List.mem_map.1 hx
   have:=(lkF_iff h.ok.nodup y.nm y.f).2 (List.mem_map.2 ⟨y,hy,rfl⟩)
   rw [e] at this;cases this
  have h2:x∉l.map DE.nm:=fun hx=>h1 (h.names.mem_iff.2 hx)
  have h3:Go.Proofs.YtekajggjoeimoaaGreatDoor.lkF x l=none:=by unfold Go.Proofs.YtekajggjoeimoaaGreatDoor.lkF;rw [look_none_of h2];rfl
  rw [h3];rfl
 | some g =>
  have h1:=(lkF_iff h.ok.nodup x g).1 e
  obtain ⟨z,hz,ez⟩:=List.mem_map.1 h1
  obtain ⟨y,hy,e1,t,ht,e2,e3⟩:=h.tw z hz
  have h4:=(lkF_iff hl y.nm y.f).2 (List.mem_map.2 ⟨y,hy,rfl⟩)
  injection ez with ez1 ez2
  rw [e1,ez1] at h4
  rw [h4,←ez2,←e3,hT t ht,e2]
  rfl
end
section
open Go.RowKit
def CopyRel (w:World) (fs:List Nat) (C:Nat→Bool→List ByteArray) (cs:Array Value) (l1 l2:List DE) (W:World):Prop :=
 ∃ T ck D1 k1 D2 k2,TW w fs C W (w.heap.size+1+1) (w.heap.size+1) T ck∧Blk W w.heap.size 66 cs∧Half W (w.heap.size+1+1+1) l1 T D1 k1∧Half W (w.heap.size+1+1+1+1) l2 T D2 k2
def CopyIt (w:World) (fs:List Nat) (C:Nat→Bool→List ByteArray) (cs:Array Value) (l l2:List DE) (r M ck:Nat) (wr:World):Prop :=
 ∃ seen,ItAt wr r M l ck seen∧CopyRel w fs C cs (seenL l seen) l2 wr∧w.heap.size+1+1+1+1<r
theorem CopyRel.below {w W W':World} {fs:List Nat} {C:Nat→Bool→List ByteArray} {cs:Array Value} {l1 l2:List DE} (h:CopyRel w fs C cs l1 l2 W) (hb:Below W.heap.size W W'):CopyRel w fs C cs l1 l2 W':=by
 obtain ⟨T,ck,D1,k1,D2,k2,hT,hc,h1,h2⟩:=h
 exact ⟨T,ck,D1,k1,D2,k2,hT.below hb,(hb.block _ hc.lt).trans hc,h1.keep (hb.block _ (Array.getElem?_eq_some_iff.1 h1.map).1) (fun _ h=>h),h2.keep (hb.block _ (Array.getElem?_eq_some_iff.1 h2.map).1) (fun _ h=>h)⟩
theorem CopyRel.off {w W W':World} {fs:List Nat} {C:Nat→Bool→List ByteArray} {cs:Array Value} {l1 l2:List DE} {r:Nat} (h:CopyRel w fs C cs l1 l2 W) (hf:Fr (fun k=>k=r) W W') (hr:w.heap.size+1+1+1+1<r) (hn:∀ cs t,W.heap[r]?≠some (.cells cs t (0,0))):CopyRel w fs C cs l1 l2 W':=by
 obtain ⟨T,ck,D1,k1,D2,k2,hT,hc,h1,h2⟩:=h
 refine ⟨T,ck,D1,k1,D2,k2,hT.off hf (fun k e=>⟨by omega,by omega,by omega,fun cs t _=>by rw [e];exact hn cs t⟩),(hf.block _ hc.lt (by omega)).trans hc,h1.keep (hf.block _ (Array.getElem?_eq_some_iff.1 h1.map).1 (by omega)) (fun _ h=>h),h2.keep (hf.block _ (Array.getElem?_eq_some_iff.1 h2.map).1 (by omega)) (fun _ h=>h)⟩
def CopyIt2 (w:World) (fs:List Nat) (C:Nat→Bool→List ByteArray) (cs:Array Value) (l l2:List DE) (r M ck:Nat) (wr:World):Prop :=
 ∃ seen,ItAt wr r M l ck seen∧CopyRel w fs C cs l2 (seenL l seen) wr∧w.heap.size+1+1+1+1<r
theorem copy_it {w w1 w2 w3:World} {l:List DE} {r M ck0 M' c':Nat} {seen:Array Nat} {es:Array MapEntry} (hit:ItAt w1 r M l ck0 seen) (hr:w.heap.size+1+1+1+1<r) (hM:M<w.heap.size) (hfr:Fr (fun k=>k=w.heap.size+1) w1 w2) (hm3:MapTo w2 w3 M' es c') (h1:w.heap.size≤M') (h2:M'<r):ItAt w3 r M l ck0 seen :=
 ⟨(hm3.block r (by omega)).trans ((hfr.block r (Array.getElem?_eq_some_iff.1 hit.1).1 (by omega)).trans hit.1),(hm3.block M (by omega)).trans ((hfr.block M (Array.getElem?_eq_some_iff.1 hit.2).1 (by omega)).trans hit.2)⟩
theorem copy_step1 {w w1 w2 w3:World} {fs:List Nat} {C:Nat→Bool→List ByteArray} {cs:Array Value} {l l2:List DE} {r M ck0 ck' k1 k2 g:Nat} {seen:Array Nat} {T T' T2:List PE} {D1 D2:List DE} {x:DE}
 (ho:MapOK l ck0) (hit:ItAt w1 r M l ck0 (seen.push x.born)) (hr:w.heap.size+1+1+1+1<r) (hM:M<w.heap.size) (hc:Blk w1 w.heap.size 66 cs) (h1:Half w1 (w.heap.size+1+1+1) (seenL l seen) T D1 k1) (h2:Half w1 (w.heap.size+1+1+1+1) l2 T D2 k2) (hx:x∈l) (hs:seen.contains x.born=false)
 (hT2:TW w fs C w2 (w.heap.size+1+1) (w.heap.size+1) T' ck') (eT:T'=T++T2) (hg:∃ t∈T',t.src=x.f∧t.dst=g) (hfr:Fr (fun k=>k=w.heap.size+1) w1 w2) (hm3:MapTo w2 w3 (w.heap.size+1+1+1) ((D1++[DE.mk x.nm g k1]).map DE.ent).toArray (k1+1)) :
 CopyIt w fs C cs l l2 r M ck0 w3:=by
 have hlt:∀ {k:Nat} {o:Obj},w1.heap[k]?=some o→k<w1.heap.size:=fun h=>(Array.getElem?_eq_some_iff.1 h).1
 have hA:=h1.keep (W':=w2) (T':=T') (hfr.block _ (hlt h1.map) (by omega)) (fun t ht=>by rw [eT];exact List.mem_append_left _ ht)
 have hB:=(h2.keep (W':=w2) (T':=T') (hfr.block _ (hlt h2.map) (by omega)) (fun t ht=>by rw [eT];exact List.mem_append_left _ ht)).keep (W':=w3) (hm3.block _ (by omega)) (fun _ h=>h)
 refine ⟨seen.push x.born,⟨(hm3.block r (by omega)).trans ((hfr.block r (hlt hit.1) (by omega)).trans hit.1),(hm3.block M (by omega)).trans ((hfr.block M (hlt hit.2) (by omega)).trans hit.2)⟩,⟨T',ck',D1++[DE.mk x.nm g k1],k1+1,D2,k2,hT2.off hm3.fr (fun k e=>⟨by omega,by omega,by omega,fun cs t _=>by rw [e,hA.map];simp⟩),(hm3.block _ (by omega)).trans ((hfr.block _ hc.lt (by omega)).trans hc),hA.push (seen_fresh ho hx hs) (seenL_push seen x hs l ho.born_nodup hx) hm3 hg,hB⟩,hr⟩
theorem copy_step2 {w w1 w2 w3:World} {fs:List Nat} {C:Nat→Bool→List ByteArray} {cs:Array Value} {l l2:List DE} {r M ck0 ck' k1 k2 g:Nat} {seen:Array Nat} {T T' T2:List PE} {D1 D2:List DE} {x:DE}
 (ho:MapOK l ck0) (hit:ItAt w1 r M l ck0 (seen.push x.born)) (hr:w.heap.size+1+1+1+1<r) (hM:M<w.heap.size) (hc:Blk w1 w.heap.size 66 cs) (h1:Half w1 (w.heap.size+1+1+1+1) (seenL l seen) T D1 k1) (h2:Half w1 (w.heap.size+1+1+1) l2 T D2 k2) (hx:x∈l) (hs:seen.contains x.born=false)
 (hT2:TW w fs C w2 (w.heap.size+1+1) (w.heap.size+1) T' ck') (eT:T'=T++T2) (hg:∃ t∈T',t.src=x.f∧t.dst=g) (hfr:Fr (fun k=>k=w.heap.size+1) w1 w2) (hm3:MapTo w2 w3 (w.heap.size+1+1+1+1) ((D1++[DE.mk x.nm g k1]).map DE.ent).toArray (k1+1)) :
 CopyIt2 w fs C cs l l2 r M ck0 w3:=by
 have hlt:∀ {k:Nat} {o:Obj},w1.heap[k]?=some o→k<w1.heap.size:=fun h=>(Array.getElem?_eq_some_iff.1 h).1
 have hA:=h1.keep (W':=w2) (T':=T') (hfr.block _ (hlt h1.map) (by omega)) (fun t ht=>by rw [eT];exact List.mem_append_left _ ht)
 have hB:=(h2.keep (W':=w2) (T':=T') (hfr.block _ (hlt h2.map) (by omega)) (fun t ht=>by rw [eT];exact List.mem_append_left _ ht)).keep (W':=w3) (hm3.block _ (by omega)) (fun _ h=>h)
 refine ⟨seen.push x.born,⟨(hm3.block r (by omega)).trans ((hfr.block r (hlt hit.1) (by omega)).trans hit.1),(hm3.block M (by omega)).trans ((hfr.block M (hlt hit.2) (by omega)).trans hit.2)⟩,⟨T',ck',D2,k2,D1++[DE.mk x.nm g k1],k1+1,hT2.off hm3.fr (fun k e=>⟨by omega,by omega,by omega,fun cs t _=>by rw [e,hA.map];simp⟩),(hm3.block _ (by omega)).trans ((hfr.block _ hc.lt (by omega)).trans hc),hB,hA.push (seen_fresh ho hx hs) (seenL_push seen x hs l ho.born_nodup hx) hm3 hg⟩,hr⟩
end
section
open Go.RowKit
theorem TPw:SlT Tryz.prog 64 106 3 32:=SlT.of Tryz.underlying64 (z:=.agg #[.pointer none,.int .i64 0,.string ⟨#[]⟩]) (by kernel_rfl) rfl (by omega) (by omega)
theorem TPc:SlT Tryz.prog 63 108 3 40:=SlT.of Tryz.underlying63 (z:=.agg #[.string ⟨#[]⟩,.string ⟨#[]⟩,.pointer none]) (by kernel_rfl) rfl (by omega) (by omega)
theorem step_callC {P:Program} {ops:Array Oper} {o:Oper} {a:Act} {w:World} {K:Act→World→Prop} {Q:Exit→Act→World→Prop} {E:Prop} (hgd:o.guard=none) (f:FuncId) (args:Array Value) (hrun:(execOp a.eval o).run P w=.ok (.enter f args) w)
 {R:Ending→World→Prop} (hc:Calls P f args w R) (hR:∀ e w',R e w'→∃ v,e=.returned v∧K (a.put o.dst v) w'):if Region.wanted o (yielded ops a.tmps)=true then Oper.wp P o a w K Q else E:=by
 have hw:Region.wanted o (yielded ops a.tmps)=true:=by simp [Region.wanted,hgd]
 rw [if_pos hw]
 unfold Oper.wp
 rw [hrun,Oper.upon_enter]
 refine hc.mono fun e w'' hh=>?_
 obtain ⟨v,rfl,hk⟩:=hR e w'' hh
 exact hk
structure WTw (T:List PE) (i:Nat) (l l':List Wr):Prop where
 len:l'.length=i
 at_:∀ (j:Nat) (y':Wr),l'[j]?=some y'→∃ y:Wr,l[j]?=some y∧y'.n=y.n∧y'.s=y.s∧∃ t∈T,t.src=y.f∧t.dst=y'.f
theorem WTw.nil (T:List PE) (l:List Wr):WTw T 0 l []:=⟨rfl,fun j y' h=>by simp at h⟩
theorem WTw.more {T T':List PE} {i:Nat} {l l':List Wr} (h:WTw T i l l') (hT:∀ t∈T,t∈T'):WTw T' i l l':=⟨h.len,fun j y' hj=>by
 obtain ⟨y,h1,h2,h3,t,h4,h5⟩:=h.at_ j y' hj
 exact ⟨y,h1,h2,h3,t,hT t h4,h5⟩⟩
theorem WTw.push {T:List PE} {i:Nat} {l l':List Wr} (h:WTw T i l l') {y:Wr} (hy:l[i]?=some y) {g:Nat} (hg:∃ t∈T,t.src=y.f∧t.dst=g):WTw T (i+1) l (l'++[Wr.mk g y.n y.s]):=by
 refine ⟨by simp [h.len],fun j y' hj=>?_⟩
 rcases Nat.lt_or_ge j l'.length with hlt | hge
 ·rw [List.getElem?_append_left hlt] at hj
  exact h.at_ j y' hj
 ·rw [List.getElem?_append_right hge] at hj
  have h0:j-l'.length=0:=by
   rcases Nat.eq_zero_or_pos (j-l'.length) with h0 | h0
   ·exact h0
   ·rw [List.getElem?_eq_none (by simp only [List.length_cons,List.length_nil];omega)] at hj;cases hj
  rw [h0] at hj
  simp at hj
  subst hj
  have hji:j=i:=by have:=h.len;omega
  subst hji
  exact ⟨y,hy,rfl,rfl,hg⟩
theorem WTw.all {T:List PE} {l l':List Wr} (h:WTw T l.length l l') {fb:Nat→Nat} (hT:∀ t∈T,t.dst=fb t.src):l'=l.map fun y=>⟨fb y.f,y.n,y.s⟩:=by
 apply List.ext_getElem?
 intro j
 rw [List.getElem?_map]
 rcases Nat.lt_or_ge j l'.length with hlt | hge
 ·obtain ⟨y,h1,h2,h3,t,h4,h5,h6⟩:=h.at_ j l'[j] (List.getElem?_eq_getElem hlt)
  rw [List.getElem?_eq_getElem hlt,h1]
  simp only [Option.map_some,Option.some.injEq]
  have hf:l'[j].f=fb y.f:=by rw [←h6,hT t h4,h5]
  cases e:l'[j] with
  | mk a b c=>rw [e] at hf h2 h3;simp only at hf h2 h3;rw [hf,h2,h3]
 ·rw [List.getElem?_eq_none hge,List.getElem?_eq_none (by have:=h.len;omega)]
  rfl
def CopyW (w:World) (fs:List Nat) (C:Nat→Bool→List ByteArray) (cs:Value→Array Value) (l1 l2:List DE) (lw:List Wr) (i:Nat) (W:World):Prop :=
 ∃ T ck D1 k1 D2 k2 v l',TW w fs C W (w.heap.size+1+1) (w.heap.size+1) T ck∧Blk W w.heap.size 66 (cs v)∧Half W (w.heap.size+1+1+1) l1 T D1 k1∧Half W (w.heap.size+1+1+1+1) l2 T D2 k2∧RowX (fun k=>w.heap.size+1+1+1+1<k) W 106 3 v i (wcells l')∧WTw T i lw l'
theorem CopyRel.set {w W:World} {fs:List Nat} {C:Nat→Bool→List ByteArray} {cs:Array Value} {l1 l2:List DE} (h:CopyRel w fs C cs l1 l2 W) (o:Nat) (u:Value):CopyRel w fs C (cs.setIfInBounds o u) l1 l2 (W.setCell ⟨w.heap.size,o,none⟩ u):=by
 obtain ⟨T,ck,D1,k1,D2,k2,hT,hc,h1,h2⟩:=h
 have hfr:Fr (fun k=>k=w.heap.size) W (W.setCell ⟨w.heap.size,o,none⟩ u):=(Fr.refl (fun k=>k=w.heap.size) W).setCell (p:=⟨w.heap.size,o,none⟩) (.inr rfl) u
 refine ⟨T,ck,D1,k1,D2,k2,hT.off hfr (fun k e=>⟨by omega,by omega,by omega,fun cs' t ht=>?_⟩),by simpa using hc.set_ o u,h1.keep (hfr.block _ (Array.getElem?_eq_some_iff.1 h1.map).1 (by omega)) (fun _ h=>h),h2.keep (hfr.block _ (Array.getElem?_eq_some_iff.1 h2.map).1 (by omega)) (fun _ h=>h)⟩
 rw [e,show W.heap[w.heap.size]?=some (.cells cs 66 (0,0)) from hc]
 intro h
 injection h with h
 injection h with h1 h2
 subst h2
 rcases ht with ht | ht <;> exact absurd ht (by decide)
theorem CopyRel.w0 {w W:World} {fs:List Nat} {C:Nat→Bool→List ByteArray} {cs:Value→Array Value} {l1 l2:List DE} (h:CopyRel w fs C (cs (.slice none 0 0)) l1 l2 W) (lw:List Wr):CopyW w fs C cs l1 l2 lw 0 W:=by
 obtain ⟨T,ck,D1,k1,D2,k2,hT,hc,h1,h2⟩:=h
 exact ⟨T,ck,D1,k1,D2,k2,.slice none 0 0,[],hT,hc,h1,h2,RowX.nil,WTw.nil T lw⟩
theorem CopyW.step {w W2 W3 W4:World} {fs:List Nat} {C:Nat→Bool→List ByteArray} {cs:Value→Array Value} {l1 l2:List DE} {lw:List Wr} {i:Nat} {T:List PE} {ck k1 k2 o:Nat} {D1 D2:List DE} {v u:Value} {l':List Wr} {y:Wr} {g:Nat}
 (hT:TW w fs C W2 (w.heap.size+1+1) (w.heap.size+1) T ck) (hc:Blk W2 w.heap.size 66 (cs v)) (h1:Half W2 (w.heap.size+1+1+1) l1 T D1 k1) (h2:Half W2 (w.heap.size+1+1+1+1) l2 T D2 k2) (hv:RowX (fun k=>w.heap.size+1+1+1+1<k) W2 106 3 v i (wcells l')) (hl:WTw T i lw l')
 (hy:lw[i]?=some y) (hg:∃ t∈T,t.src=y.f∧t.dst=g) (hb:Below W2.heap.size W2 W3) (hgr:W3.grownBy W4 v.ownBlock) (ho:W4.ownsRow 0 106 3 u (i+1) (wcells (l'++[Wr.mk g y.n y.s]))) (hu:u.ownBlock=v.ownBlock∨u.ownBlock=some W3.heap.size) (hcs:(cs v).setIfInBounds o u=cs u) :
 CopyW w fs C cs l1 l2 lw (i+1) (W4.setCell ⟨w.heap.size,o,none⟩ u):=by
 have hlo:w.heap.size+1+1+1+1<W2.heap.size:=(Array.getElem?_eq_some_iff.1 h2.map).1
 have hlo3:w.heap.size+1+1+1+1<W3.heap.size:=Nat.lt_of_lt_of_le hlo hb.size
 have hvX:∀ k,v.ownBlock=some k→w.heap.size+1+1+1+1<k:=fun k hk=>hv.2 k hk
 have f24:Fr (fun k=>v.ownBlock=some k) W2 W4:=(Fr.of_below hb).grown hgr (fun k hk=>.inr hk)
 have hvb:∀ k,v.ownBlock=some k→∃ cur,W2.heap[k]?=some (.cells cur 106 (0,0)):=fun k hk=>hv.block hk
 have f25:Fr (fun k=>v.ownBlock=some k∨k=w.heap.size) W2 (W4.setCell ⟨w.heap.size,o,none⟩ u):=(f24.mono (fun k _ h=>.inl h)).setCell (p:=⟨w.heap.size,o,none⟩) (.inr (.inr rfl)) u
 have hcw:W2.heap[w.heap.size]?=some (.cells (cs v) 66 (0,0)):=hc
 have hne:¬ v.ownBlock=some w.heap.size:=fun h=>by have:=hvX _ h;omega
 have hc4:Blk W4 w.heap.size 66 (cs v):=(f24.block _ hc.lt hne).trans hc
 have hkeep:∀ k,W2.heap[k]?.isSome→k≠w.heap.size→¬ v.ownBlock=some k→(W4.setCell ⟨w.heap.size,o,none⟩ u).heap[k]?=W2.heap[k]?:=fun k hk hn hv'=>f25.block k (by
  cases e:W2.heap[k]? with
  | none=>rw [e] at hk;cases hk
  | some x=>exact (Array.getElem?_eq_some_iff.1 e).1) (fun h=>h.elim hv' hn)
 refine ⟨T,ck,D1,k1,D2,k2,u,l'++[Wr.mk g y.n y.s],hT.off f25 (fun k hk=>?_),?_,?_,?_,?_,hl.push hy hg⟩
 ·rcases hk with hk | hk
  ·obtain ⟨cur,hcur⟩:=hvb k hk
   have:=hvX k hk
   refine ⟨by omega,by omega,by omega,fun cs' t ht=>?_⟩
   rw [hcur]
   intro h
   injection h with h
   injection h with h1 h2
   subst h2
   rcases ht with ht | ht <;> exact absurd ht (by decide)
  ·refine ⟨by omega,by omega,by omega,fun cs' t ht=>?_⟩
   rw [hk,hcw]
   intro h
   injection h with h
   injection h with h1 h2
   subst h2
   rcases ht with ht | ht <;> exact absurd ht (by decide)
 ·have:=hc4.set_ o u
  rw [hcs] at this
  exact this
 ·exact h1.keep (hkeep _ (by rw [h1.map];rfl) (by omega) (fun h=>by have:=hvX _ h;omega)) (fun _ h=>h)
 ·exact h2.keep (hkeep _ (by rw [h2.map];rfl) (by omega) (fun h=>by have:=hvX _ h;omega)) (fun _ h=>h)
 ·refine RowX.of_own (own_set' ho hc4 (by decide)) (fun k hk=>?_)
  rcases hu with e | e
  ·rw [e] at hk;exact hvX k hk
  ·rw [e] at hk
   injection hk with hk
   omega
end
section
open Go.RowKit
def FTw (T:List PE) (a b:Option Nat):Prop:=(a=none∧b=none)∨∃ f g,a=some f∧b=some g∧∃ t∈T,t.src=f∧t.dst=g
theorem FTw.more {T T':List PE} {a b:Option Nat} (h:FTw T a b) (hT:∀ t∈T,t∈T'):FTw T' a b:=h.imp id (fun ⟨f,g,h1,h2,t,h3,h4⟩=>⟨f,g,h1,h2,t,hT t h3,h4⟩)
theorem FTw.map {T:List PE} {a b:Option Nat} (h:FTw T a b) {fb:Nat→Nat} (hT:∀ t∈T,t.dst=fb t.src):b=a.map fb:=by
 rcases h with ⟨rfl,rfl⟩ | ⟨f,g,rfl,rfl,t,h1,h2,h3⟩
 ·rfl
 ·rw [←h3,hT t h1,h2];rfl
structure CTw (T:List PE) (i:Nat) (l l':List Cq):Prop where
 len:l'.length=i
 at_:∀ (j:Nat) (y':Cq),l'[j]?=some y'→∃ y:Cq,l[j]?=some y∧y'.nm=y.nm∧y'.to=y.to∧FTw T y.f y'.f
theorem CTw.nil (T:List PE) (l:List Cq):CTw T 0 l []:=⟨rfl,fun j y' h=>by simp at h⟩
theorem CTw.more {T T':List PE} {i:Nat} {l l':List Cq} (h:CTw T i l l') (hT:∀ t∈T,t∈T'):CTw T' i l l':=⟨h.len,fun j y' hj=>by
 obtain ⟨y,h1,h2,h3,h4⟩:=h.at_ j y' hj
 exact ⟨y,h1,h2,h3,h4.more hT⟩⟩
theorem CTw.push {T:List PE} {i:Nat} {l l':List Cq} (h:CTw T i l l') {y:Cq} (hy:l[i]?=some y) {b:Option Nat} (hg:FTw T y.f b):CTw T (i+1) l (l'++[Cq.mk y.nm y.to b]):=by
 refine ⟨by simp [h.len],fun j y' hj=>?_⟩
 rcases Nat.lt_or_ge j l'.length with hlt | hge
 ·rw [List.getElem?_append_left hlt] at hj
  exact h.at_ j y' hj
 ·rw [List.getElem?_append_right hge] at hj
  have h0:j-l'.length=0:=by
   rcases Nat.eq_zero_or_pos (j-l'.length) with h0 | h0
   ·exact h0
   ·rw [List.getElem?_eq_none (by simp only [List.length_cons,List.length_nil];omega)] at hj;cases hj
  rw [h0] at hj
  simp at hj
  subst hj
  have hji:j=i:=by have:=h.len;omega
  subst hji
  exact ⟨y,hy,rfl,rfl,hg⟩
theorem CTw.all {T:List PE} {l l':List Cq} (h:CTw T l.length l l') {fb:Nat→Nat} (hT:∀ t∈T,t.dst=fb t.src):l'=l.map fun y=>⟨y.nm,y.to,y.f.map fb⟩:=by
 apply List.ext_getElem?
 intro j
 rw [List.getElem?_map]
 rcases Nat.lt_or_ge j l'.length with hlt | hge
 ·obtain ⟨y,h1,h2,h3,h4⟩:=h.at_ j l'[j] (List.getElem?_eq_getElem hlt)
  rw [List.getElem?_eq_getElem hlt,h1]
  simp only [Option.map_some,Option.some.injEq]
  have hf:=h4.map hT
  cases e:l'[j] with
  | mk a b c=>rw [e] at hf h2 h3;simp only at hf h2 h3;rw [hf,h2,h3]
 ·rw [List.getElem?_eq_none hge,List.getElem?_eq_none (by have:=h.len;omega)]
  rfl
structure CopyC (w:World) (fs:List Nat) (C:Nat→Bool→List ByteArray) (cs:Array Value) (l1 l2:List DE) (lw:List Wr) (lc:List Cq) (i:Nat) (T:List PE) (v3 v4:Value) (m':List Cq) (W:World):Prop where
 tw:∃ ck,TW w fs C W (w.heap.size+1+1) (w.heap.size+1) T ck
 blk:Blk W w.heap.size 66 cs
 h1:∃ D1 k1,Half W (w.heap.size+1+1+1) l1 T D1 k1
 h2:∃ D2 k2,Half W (w.heap.size+1+1+1+1) l2 T D2 k2
 wr:∃ l',RowX (fun k=>w.heap.size+1+1+1+1<k) W 106 3 v4 lw.length (wcells l')∧WTw T lw.length lw l'
 ch:RowX (fun k=>w.heap.size+1+1+1+1<k) W 108 3 v3 i (cqcells m')
 ctw:CTw T i lc m'
theorem CopyC.lo {w:World} {fs:List Nat} {C:Nat→Bool→List ByteArray} {cs:Array Value} {l1 l2:List DE} {lw:List Wr} {lc:List Cq} {i:Nat} {T:List PE} {v3 v4:Value} {m':List Cq} {W:World} (h:CopyC w fs C cs l1 l2 lw lc i T v3 v4 m' W):w.heap.size+1+1+1+1<W.heap.size:=by
 obtain ⟨D2,k2,hh⟩:=h.h2
 exact (Array.getElem?_eq_some_iff.1 hh.map).1
theorem CopyC.off {w:World} {fs:List Nat} {C:Nat→Bool→List ByteArray} {cs:Array Value} {l1 l2:List DE} {lw:List Wr} {lc:List Cq} {i:Nat} {T:List PE} {v3 v4:Value} {m':List Cq} {W W':World} {Y:Nat→Prop} (h:CopyC w fs C cs l1 l2 lw lc i T v3 v4 m' W) (hf:Fr Y W W')
 (hY:∀ k,Y k→w.heap.size+1+1+1+1<k∧v3.ownBlock≠some k∧v4.ownBlock≠some k∧∀ cs t,FT t→W.heap[k]?≠some (.cells cs t (0,0))):CopyC w fs C cs l1 l2 lw lc i T v3 v4 m' W':=by
 obtain ⟨⟨ck,hT⟩,hb,⟨D1,k1,h1⟩,⟨D2,k2,h2⟩,⟨l',hw,hwt⟩,hc,hct⟩:=h
 have hy:∀ k,k≤w.heap.size+1+1+1+1→¬ Y k:=fun k hk hy=>by have:=(hY k hy).1;omega
 exact ⟨⟨ck,hT.off hf (fun k hk=>by have:=hY k hk;exact ⟨by omega,by omega,by omega,this.2.2.2⟩)⟩,(hf.block _ hb.lt (hy _ (by omega))).trans hb,⟨D1,k1,h1.keep (hf.block _ (Array.getElem?_eq_some_iff.1 h1.map).1 (hy _ (by omega))) (fun _ h=>h)⟩,⟨D2,k2,h2.keep (hf.block _ (Array.getElem?_eq_some_iff.1 h2.map).1 (hy _ (by omega))) (fun _ h=>h)⟩,
  ⟨l',hw.keep (fun k cs _ e hk=>(hf.block k (Array.getElem?_eq_some_iff.1 hk).1 (fun hyk=>(hY k hyk).2.2.1 e)).trans hk) (fun _ h=>h),hwt⟩,hc.keep (fun k cs _ e hk=>(hf.block k (Array.getElem?_eq_some_iff.1 hk).1 (fun hyk=>(hY k hyk).2.1 e)).trans hk) (fun _ h=>h),hct⟩
theorem CopyC.twin {w:World} {fs:List Nat} {C:Nat→Bool→List ByteArray} {cs:Array Value} {l1 l2:List DE} {lw:List Wr} {lc:List Cq} {i ck':Nat} {T T' T2:List PE} {v3 v4:Value} {m':List Cq} {W W':World} (h:CopyC w fs C cs l1 l2 lw lc i T v3 v4 m' W) (hT':TW w fs C W' (w.heap.size+1+1) (w.heap.size+1) T' ck') (eT:T'=T++T2) (hf:Fr (fun k=>k=w.heap.size+1) W W'):CopyC w fs C cs l1 l2 lw lc i T' v3 v4 m' W':=by
 obtain ⟨⟨ck,hT⟩,hb,⟨D1,k1,h1⟩,⟨D2,k2,h2⟩,⟨l',hw,hwt⟩,hc,hct⟩:=h
 have hsub:∀ t∈T,t∈T':=fun t ht=>by rw [eT];exact List.mem_append_left _ ht
 exact ⟨⟨ck',hT'⟩,(hf.block _ hb.lt (by omega)).trans hb,⟨D1,k1,h1.keep (hf.block _ (Array.getElem?_eq_some_iff.1 h1.map).1 (by omega)) hsub⟩,⟨D2,k2,h2.keep (hf.block _ (Array.getElem?_eq_some_iff.1 h2.map).1 (by omega)) hsub⟩,
  ⟨l',hw.keep (fun k cs hX e hk=>(hf.block k (Array.getElem?_eq_some_iff.1 hk).1 (by have hX':w.heap.size+1+1+1+1<k:=hX;omega)).trans hk) (fun _ h=>h),hwt.more hsub⟩,hc.keep (fun k cs hX e hk=>(hf.block k (Array.getElem?_eq_some_iff.1 hk).1 (by have hX':w.heap.size+1+1+1+1<k:=hX;omega)).trans hk) (fun _ h=>h),hct.more hsub⟩
theorem CopyC.step {w:World} {fs:List Nat} {C:Nat→Bool→List ByteArray} {cs:Array Value} {l1 l2:List DE} {lw:List Wr} {lc:List Cq} {i:Nat} {T:List PE} {v3 v4 u:Value} {m':List Cq} {W W4:World} {y:Cq} {b:Option Nat} (h:CopyC w fs C cs l1 l2 lw lc i T v3 v4 m' W)
 (hy:lc[i]?=some y) (hg:FTw T y.f b) (hgr:W.grownBy W4 v3.ownBlock) (ho:W4.ownsRow 0 108 3 u (i+1) (cqcells (m'++[Cq.mk y.nm y.to b]))) (hu:u.ownBlock=v3.ownBlock∨u.ownBlock=some W.heap.size) :
 CopyC w fs C (cs.setIfInBounds 3 u) l1 l2 lw lc (i+1) T u v4 (m'++[Cq.mk y.nm y.to b]) (W4.setCell ⟨w.heap.size,3,none⟩ u):=by
 have hlo:=h.lo
 obtain ⟨⟨ck,hT⟩,hb,⟨D1,k1,h1⟩,⟨D2,k2,h2⟩,⟨l',hw,hwt⟩,hc,hct⟩:=h
 have hvX:∀ k,v3.ownBlock=some k→w.heap.size+1+1+1+1<k:=fun k hk=>hc.2 k hk
 have f4:Fr (fun k=>v3.ownBlock=some k) W W4:=(Fr.refl (fun k=>v3.ownBlock=some k) W).grown hgr (fun k hk=>.inr hk)
 have f5:Fr (fun k=>v3.ownBlock=some k∨k=w.heap.size) W (W4.setCell ⟨w.heap.size,3,none⟩ u):=(f4.mono (fun k _ h=>.inl h)).setCell (p:=⟨w.heap.size,3,none⟩) (.inr (.inr rfl)) u
 have hcw:W.heap[w.heap.size]?=some (.cells cs 66 (0,0)):=hb
 have hne:¬ v3.ownBlock=some w.heap.size:=fun h=>by have:=hvX _ h;omega
 have hb4:Blk W4 w.heap.size 66 cs:=(f4.block _ hb.lt hne).trans hb
 have hkeep:∀ (k:Nat) (o:Obj),W.heap[k]?=some o→k≠w.heap.size→¬ v3.ownBlock=some k→(W4.setCell ⟨w.heap.size,3,none⟩ u).heap[k]?=W.heap[k]?:=fun k o hk hn hv'=>f5.block k (Array.getElem?_eq_some_iff.1 hk).1 (fun h=>h.elim hv' hn)
 refine ⟨⟨ck,hT.off f5 (fun k hk=>?_)⟩,by simpa using hb4.set_ 3 u,⟨D1,k1,h1.keep (hkeep _ _ h1.map (by omega) (fun h=>by have:=hvX _ h;omega)) (fun _ h=>h)⟩,⟨D2,k2,h2.keep (hkeep _ _ h2.map (by omega) (fun h=>by have:=hvX _ h;omega)) (fun _ h=>h)⟩,
  ⟨l',hw.keep (fun k cs' hX e hk=>(hkeep k _ hk (by have hX':w.heap.size+1+1+1+1<k:=hX;omega) (fun e3=>?_)).trans hk) (fun _ h=>h),hwt⟩,?_,hct.push hy hg⟩
 ·rcases hk with hk | hk
  ·obtain ⟨cur,hcur⟩:=hc.block hk
   have:=hvX k hk
   refine ⟨by omega,by omega,by omega,fun cs' t ht=>?_⟩
   rw [hcur]
   intro h
   injection h with h
   injection h with h1 h2
   subst h2
   rcases ht with ht | ht <;> exact absurd ht (by decide)
  ·refine ⟨by omega,by omega,by omega,fun cs' t ht=>?_⟩
   rw [hk,hcw]
   intro h
   injection h with h
   injection h with h1 h2
   subst h2
   rcases ht with ht | ht <;> exact absurd ht (by decide)
 ·obtain ⟨cur,hcur⟩:=hc.block e3
  rw [hk] at hcur
  injection hcur with hcur
  injection hcur with h1 h2
  exact absurd h2 (by decide)
 ·refine RowX.of_own (own_set' ho hb4 (by decide)) (fun k hk=>?_)
  rcases hu with e | e
  ·rw [e] at hk;exact hvX k hk
  ·rw [e] at hk
   injection hk with hk
   omega
theorem CopyC.start {w W:World} {fs:List Nat} {C:Nat→Bool→List ByteArray} {cs:Array Value} {l1 l2:List DE} {lw:List Wr} {lc:List Cq} {T:List PE} {ck k1 k2:Nat} {D1 D2:List DE} {v:Value} {l':List Wr}
 (hT:TW w fs C W (w.heap.size+1+1) (w.heap.size+1) T ck) (hc:Blk W w.heap.size 66 cs) (h1:Half W (w.heap.size+1+1+1) l1 T D1 k1) (h2:Half W (w.heap.size+1+1+1+1) l2 T D2 k2) (hv:RowX (fun k=>w.heap.size+1+1+1+1<k) W 106 3 v lw.length (wcells l')) (hl:WTw T lw.length lw l') :
 CopyC w fs C (cs.setIfInBounds 3 (.slice none 0 0)) l1 l2 lw lc 0 T (.slice none 0 0) v [] (W.setCell ⟨w.heap.size,3,none⟩ (.slice none 0 0)):=by
 have hfr:Fr (fun k=>k=w.heap.size) W (W.setCell ⟨w.heap.size,3,none⟩ (.slice none 0 0)):=(Fr.refl (fun k=>k=w.heap.size) W).setCell (p:=⟨w.heap.size,3,none⟩) (.inr rfl) (.slice none 0 0)
 have hcw:W.heap[w.heap.size]?=some (.cells cs 66 (0,0)):=hc
 refine ⟨⟨ck,hT.off hfr (fun k e=>⟨by omega,by omega,by omega,fun cs' t ht=>?_⟩)⟩,by simpa using hc.set_ 3 (.slice none 0 0),⟨D1,k1,h1.keep (hfr.block _ (Array.getElem?_eq_some_iff.1 h1.map).1 (by omega)) (fun _ h=>h)⟩,⟨D2,k2,h2.keep (hfr.block _ (Array.getElem?_eq_some_iff.1 h2.map).1 (by omega)) (fun _ h=>h)⟩,
  ⟨l',hv.keep (fun k cs' hX e hk=>(hfr.block k (Array.getElem?_eq_some_iff.1 hk).1 (by have hX':w.heap.size+1+1+1+1<k:=hX;omega)).trans hk) (fun _ h=>h),hl⟩,RowX.nil,CTw.nil T lc⟩
 rw [e,hcw]
 intro h
 injection h with h
 injection h with h1 h2
 subst h2
 rcases ht with ht | ht <;> exact absurd ht (by decide)
end
section
open Go.RowKit
set_option maxHeartbeats 4000000 in
set_option maxRecDepth 100000 in
theorem copy_0 {X:Nat→Prop} {w:World} {db M1 M2:Nat} {v3 v4:Value} {q:DQ} {fs:List Nat} {V:Nat→Bool→Value} {C:Nat→Bool→List ByteArray} (hd:DiskV X w db M1 M2 v3 v4 q) (hfv:FilesV X w fs V C)
 (h1f:∀ x∈q.dir,x.f∈fs) (h2f:∀ x∈q.now,x.f∈fs) (hwf:∀ x∈q.wrs,x.f∈fs) (hwl:q.wrs.length≤1000) (hcf:∀ x∈q.chs,∀ f,x.f=some f→f∈fs) (hcl:q.chs.length≤1000) (hlen:∀ f∈fs,∀ b,(C f b).length≤5000) :
 Calls Tryz.prog 15 #[.pointer (some ⟨db,0,none⟩)] w fun e w'=>e=.returned (.pointer (some ⟨w.heap.size,0,none⟩))∧∃ T v3 v4 m',CopyC w fs C #[.int .i64 q.room,.map (some (w.heap.size+1+1+1)),.map (some (w.heap.size+1+1+1+1)),v3,v4,.bool q.armed,.int .i64 q.after,.int .i64 q.code] q.dir q.now q.wrs q.chs q.chs.length T v3 v4 m' w':=by
 have hmm:=@run_makeMap Tryz.prog
 have hb:=hd.blk
 obtain ⟨A3,c3,rfl⟩:=hd.chs.form
 obtain ⟨A4,c4,rfl⟩:=hd.wrs.form
 have d0:w.cell? ⟨db,0,none⟩=some (.int .i64 q.room):=hb.cell 0
 have d1:w.cell? ⟨db,1,none⟩=some (.map (some M1)):=hb.cell 1
 have d2:w.cell? ⟨db,2,none⟩=some (.map (some M2)):=hb.cell 2
 have d3:w.cell? ⟨db,3,none⟩=some (.slice A3 q.chs.length c3):=hb.cell 3
 have d4:w.cell? ⟨db,4,none⟩=some (.slice A4 q.wrs.length c4):=hb.cell 4
 have d5:w.cell? ⟨db,5,none⟩=some (.bool q.armed):=hb.cell 5
 have d6:w.cell? ⟨db,6,none⟩=some (.int .i64 q.after):=hb.cell 6
 have d7:w.cell? ⟨db,7,none⟩=some (.int .i64 q.code):=hb.cell 7
 have hdb:db<w.heap.size:=hb.lt
 obtain ⟨W5,hW5⟩:∃ W,W=(((((w.alloc (.cells #[.int .i64 q.room,.map (some (w.heap.size+1+1+1)),.map (some (w.heap.size+1+1+1+1)),.slice A3 q.chs.length c3,.slice A4 q.wrs.length c4,.bool q.armed,.int .i64 q.after,.int .i64 q.code] 66)).alloc (.map #[] 0)).alloc (.cells #[.map (some (w.heap.size+1))] 97)).alloc (.map #[] 0)).alloc (.map #[] 0)):=⟨_,rfl⟩
 have hB5:Below w.heap.size w W5:=by
  rw [hW5]
  exact (((((Below.refl _ w).alloc (Nat.le_refl _) _).alloc (by simp) _).alloc (by simp;omega) _).alloc (by simp;omega) _).alloc (by simp;omega) _
 have hs5:W5.heap.size=w.heap.size+5:=by rw [hW5];simp
 have hC5:CopyRel w fs C #[.int .i64 q.room,.map (some (w.heap.size+1+1+1)),.map (some (w.heap.size+1+1+1+1)),.slice A3 q.chs.length c3,.slice A4 q.wrs.length c4,.bool q.armed,.int .i64 q.after,.int .i64 q.code] [] [] W5:=by
  have g:∀ (W:World) (o o':Obj) (k:Nat),W.heap[k]?=some o'→(W.alloc o).heap[k]?=some o':=fun W o o' k hk=>(Below.heap_alloc W o k (Array.getElem?_eq_some_iff.1 hk).1).trans hk
  have n:∀ (W:World) (o:Obj) (k:Nat),W.heap.size=k→(W.alloc o).heap[k]?=some o:=fun W o k e=>by rw [←e];exact heap_alloc_new W o
  refine ⟨[],0,[],0,[],0,⟨hB5,?_,?_,⟨by omega,by omega⟩,by simp,by simp,by simp,fun _ _=>.slice none 0 0,fun _ _=>[],⟨by simp,by simp,by simp,by simp⟩,by simp⟩,?_,Half.nil ?_,Half.nil ?_⟩
  ·rw [hW5];exact g _ _ _ _ (g _ _ _ _ (n _ _ _ (by simp)))
  ·rw [hW5];exact g _ _ _ _ (g _ _ _ _ (g _ _ _ _ (n _ _ _ (by simp))))
  ·rw [hW5];exact g _ _ _ _ (g _ _ _ _ (g _ _ _ _ (g _ _ _ _ (n _ _ _ rfl))))
  ·rw [hW5];exact g _ _ _ _ (n _ _ _ (by simp))
  ·rw [hW5];exact n _ _ _ (by simp)
 have hm1:W5.heap[M1]?=some (.map (q.dir.map DE.ent).toArray q.dck):=(hB5.block _ (Array.getElem?_eq_some_iff.1 hd.m1).1).trans hd.m1
 have hrg:=run_range_map (P:=Tryz.prog) W5 62 _ _ M1 _ q.dck Tryz.underlying62 hm1
 have hM1:=(Array.getElem?_eq_some_iff.1 hd.m1).1
 have HH:=Lib.hid (And.intro hB5 (And.intro hs5 (And.intro hC5 (And.intro hm1 hM1))))
 clear hB5 hs5 hC5 hm1 hM1
 have e1:W5.cell? ⟨db,1,none⟩=some (.map (some M1)):=Blk.cell ((HH.out.1.block _ hdb).trans hb) 1
 rw [hW5] at hrg e1
 go_enter Tryz.func15,Tryz.ntmps15
 go_wp2
 rw [←hW5]
 clear hrg e1
 go_loopw [7] (fun _ wr=>CopyIt w fs C #[.int .i64 q.room,.map (some (w.heap.size+1+1+1)),.map (some (w.heap.size+1+1+1+1)),.slice A3 q.chs.length c3,.slice A4 q.wrs.length c4,.bool q.armed,.int .i64 q.after,.int .i64 q.code] q.dir [] (w.heap.size+1+1+1+1+1) M1 q.dck wr) (fun _ wr=>(leftOf (q.dir.map DE.ent).toArray (wr.iterSeen (w.heap.size+1+1+1+1+1))).size)
 case atStart =>
  have hlt5:M1<W5.heap.size:=(Array.getElem?_eq_some_iff.1 HH.out.2.2.2.1).1
  have hr5:w.heap.size+1+1+1+1+1=W5.heap.size:=by have:=HH.out.2.1;omega
  rw [hr5]
  refine ⟨#[],⟨heap_alloc_new W5 _,(Below.heap_alloc _ _ _ hlt5).trans HH.out.2.2.2.1⟩,?_,by have:=HH.out.2.1;omega⟩
  rw [show seenL q.dir #[]=[] from List.filter_eq_nil_iff.2 (fun x _=>by simp)]
  exact HH.out.2.2.1.below ((Below.refl _ W5).alloc (Nat.le_refl _) _)
 case round =>
  obtain ⟨seen,hit,hC,hr⟩:=hrel
  rcases it_step hit hd.ok1 with ⟨h0,hnx⟩ | ⟨x,hx,hs,hsm,w1,hnx,hen,hit1,ho,ht,hu,hsz,hbl⟩
  ·have e0:=seenL_all q.dir seen h0
   rw [e0] at hC
   obtain ⟨wo,rfl⟩:∃ wo,wo=wr:=⟨wr,rfl⟩
   have hBr:Below w.heap.size w wo:=by obtain ⟨T,ckT,D1,k1,D2,k2,hT,_⟩:=hC;exact hT.bel
   have hlo:w.heap.size+1+1+1+1<wo.heap.size:=by obtain ⟨T,ckT,D1,k1,D2,k2,hT,_,_,hh⟩:=hC;exact (Array.getElem?_eq_some_iff.1 hh.map).1
   have hM2:=(Array.getElem?_eq_some_iff.1 hd.m2).1
   have e2:wo.cell? ⟨db,2,none⟩=some (.map (some M2)):=Blk.cell ((hBr.block _ hdb).trans hb) 2
   have hm2:wo.heap[M2]?=some (.map (q.now.map DE.ent).toArray q.nck):=(hBr.block _ hM2).trans hd.m2
   have hrg2:=run_range_map (P:=Tryz.prog) wo 62 _ _ M2 _ q.nck Tryz.underlying62 hm2
   have HO:=Lib.hid (And.intro hC (And.intro hBr (And.intro hlo (And.intro hM2 hm2))))
   clear hC hBr hlo hM2 hm2 e0 h0 hit hr
   go_wp2
   clear hrg2 e2 hnx
   go_loopw [9] (fun _ wr=>CopyIt2 w fs C #[.int .i64 q.room,.map (some (w.heap.size+1+1+1)),.map (some (w.heap.size+1+1+1+1)),.slice A3 q.chs.length c3,.slice A4 q.wrs.length c4,.bool q.armed,.int .i64 q.after,.int .i64 q.code] q.now q.dir wo.heap.size M2 q.nck wr) (fun _ wr=>(leftOf (q.now.map DE.ent).toArray (wr.iterSeen wo.heap.size)).size)
   case atStart =>
    have hlt5:M2<wo.heap.size:=(Array.getElem?_eq_some_iff.1 HO.out.2.2.2.2).1
    refine ⟨#[],⟨heap_alloc_new wo _,(Below.heap_alloc _ _ _ hlt5).trans HO.out.2.2.2.2⟩,?_,HO.out.2.2.1⟩
    rw [show seenL q.now #[]=[] from List.filter_eq_nil_iff.2 (fun x _=>by simp)]
    exact HO.out.1.below ((Below.refl _ wo).alloc (Nat.le_refl _) _)
   case round =>
    obtain ⟨seen,hit,hC,hr⟩:=hrel
    rcases it_step hit hd.ok2 with ⟨h0,hnx⟩ | ⟨x,hx,hs,hsm,w1,hnx,hen,hit1,ho,ht,hu,hsz,hbl⟩
    ·have e0:=seenL_all q.now seen h0
     rw [e0] at hC
     have hBr:Below w.heap.size w wr:=by obtain ⟨T,ckT,D1,k1,D2,k2,hT,_⟩:=hC;exact hT.bel
     have e4:wr.cell? ⟨db,4,none⟩=some (.slice A4 q.wrs.length c4):=Blk.cell ((hBr.block _ hdb).trans hb) 4
     have f4:wr.frozen? ⟨w.heap.size,4,none⟩=false:=by obtain ⟨T,ckT,D1,k1,D2,k2,hT,hc,_⟩:=hC;exact Blk.frozen hc 4
     have g4:wr.cell? ⟨w.heap.size,4,none⟩=some (.slice A4 q.wrs.length c4):=by obtain ⟨T,ckT,D1,k1,D2,k2,hT,hc,_⟩:=hC;exact Blk.cell hc 4
     have e6:(wr.setCell ⟨w.heap.size,4,none⟩ (.slice none 0 0)).cell? ⟨db,4,none⟩=some (.slice A4 q.wrs.length c4):=(World.cell?_setCell_far _ _ _ _ (by show w.heap.size≠db;omega)).trans e4
     have HP:=Lib.hid (And.intro hC hBr)
     clear hC hBr h0 hit hr
     go_wp2
     clear e6 e4 f4 g4
     go_loopw [63] (fun n W=>∃ j:Nat,j≤q.wrs.length∧n=.int .i64 j∧CopyW w fs C (fun v=>#[.int .i64 q.room,.map (some (w.heap.size+1+1+1)),.map (some (w.heap.size+1+1+1+1)),.slice A3 q.chs.length c3,v,.bool q.armed,.int .i64 q.after,.int .i64 q.code]) q.dir q.now q.wrs j W) (fun n _=>q.wrs.length-(intOf n).toNat)
     case atStart =>
      exact ⟨0,Nat.zero_le _,rfl,CopyRel.w0 (cs:=fun v=>#[.int .i64 q.room,.map (some (w.heap.size+1+1+1)),.map (some (w.heap.size+1+1+1+1)),.slice A3 q.chs.length c3,v,.bool q.armed,.int .i64 q.after,.int .i64 q.code]) (HP.out.1.set 4 (.slice none 0 0)) q.wrs⟩
     case round =>
      obtain ⟨j,hj,rfl,T,ckT,D1,k1,D2,k2,v,l',hT,hc,hh1,hh2,hv,hl⟩:=hrel
      by_cases hlt:j<q.wrs.length
      ·have d2:decide (j<q.wrs.length)=true:=by simpa using hlt
       obtain ⟨y,hy⟩:∃ y,q.wrs[j]?=some y:=⟨_,List.getElem?_eq_getElem hlt⟩
       obtain ⟨g0,c0',cur,hv0,hXg,hg0,hsz,hcur⟩:=hd.wrs.row (by omega)
       obtain ⟨rfl,_,rfl⟩:A4=some ⟨g0,0,none⟩∧q.wrs.length=q.wrs.length∧c4=c0':=by simpa using hv0
       have hgw:Blk wr g0 106 cur:=(hT.bel.block _ hg0.lt).trans hg0
       have e0:wr.cell? ⟨g0,j*3,none⟩=some (.pointer (some ⟨y.f,0,none⟩)):=(hgw.cell _).trans (hcur _ _ ((wcells_at hy 0 (by omega)).trans rfl))
       have e1:wr.cell? ⟨g0,j*3+1,none⟩=some (.int .i64 y.n):=(hgw.cell _).trans (hcur _ _ ((wcells_at hy 1 (by omega)).trans rfl))
       have e2:wr.cell? ⟨g0,j*3+2,none⟩=some (.string y.s):=(hgw.cell _).trans (hcur _ _ ((wcells_at hy 2 (by omega)).trans rfl))
       have i0:(0:Int)≤(j:Int):=by omega
       have i1:(j:Int)<(q.wrs.length:Int):=by omega
       obtain ⟨Av,cv,rfl⟩:=hv.form
       have hlo:w.heap.size+1+1+1+1<wr.heap.size:=(Array.getElem?_eq_some_iff.1 hh2.map).1
       have bW:Below wr.heap.size wr (wr.alloc (.cells #[.pointer (some ⟨y.f,0,none⟩),.int .i64 y.n,.string y.s] 106)):=(Below.refl _ _).alloc (Nat.le_refl _) _
       have bx:=Blk.new wr 106 #[.pointer (some ⟨y.f,0,none⟩),.int .i64 y.n,.string y.s]
       have hTw:=twin_any (hT.below bW.drew) hfv hlen (hwf y (List.mem_of_getElem? hy))
       have hc1:=(bW.block _ hc.lt).trans hc
       have x4:(wr.alloc (.cells #[.pointer (some ⟨y.f,0,none⟩),.int .i64 y.n,.string y.s] 106)).cell? ⟨w.heap.size,4,none⟩=some (.slice Av j cv):=Blk.cell hc1 4
       have x0:(wr.alloc (.cells #[.pointer (some ⟨y.f,0,none⟩),.int .i64 y.n,.string y.s] 106)).cell? ⟨wr.heap.size,0,none⟩=some (.pointer (some ⟨y.f,0,none⟩)):=bx.cell 0
       have x1:(wr.alloc (.cells #[.pointer (some ⟨y.f,0,none⟩),.int .i64 y.n,.string y.s] 106)).cell? ⟨wr.heap.size,1,none⟩=some (.int .i64 y.n):=bx.cell 1
       have x2:(wr.alloc (.cells #[.pointer (some ⟨y.f,0,none⟩),.int .i64 y.n,.string y.s] 106)).cell? ⟨wr.heap.size,2,none⟩=some (.string y.s):=bx.cell 2
       have HL:=Lib.hid (And.intro hy (And.intro hlo (And.intro hc1 (And.intro bx (And.intro hl (And.intro bW hj))))))
       clear hy hlo hc1 bx hl hj hcur hgw
       go_wp2
       obtain ⟨W1,hW1⟩:∃ W,(wr.alloc (.cells #[.pointer (some ⟨y.f,0,none⟩),.int .i64 y.n,.string y.s] 106))=W:=⟨_,rfl⟩
       rw [hW1] at hTw x4 x0 x1 x2 HL ⊢
       have hN:∀ k,(Value.slice Av j cv).ownBlock=some k→k≠wr.heap.size:=fun k hk=>Nat.ne_of_lt (hv.lt hk)
       have HN:=Lib.hid (And.intro hN hW1)
       clear hN hW1
       refine regionE 13 (fun W0=>W0.cell? ⟨w.heap.size,4,none⟩=some (.slice Av j cv)∧W0.cell? ⟨wr.heap.size,0,none⟩=some (.pointer (some ⟨y.f,0,none⟩))∧W0.cell? ⟨wr.heap.size,1,none⟩=some (.int .i64 y.n)∧W0.cell? ⟨wr.heap.size,2,none⟩=some (.string y.s)) (by kernel_rfl) (by kernel_rfl) (by kernel_rfl) (by kernel_rfl) (by kernel_rfl) (⟨x4,x0,x1,x2⟩) (fun hHeld hTl=>?_)
       refine tkT 0 (v:=?_) hTl hHeld rfl ?_ (fun hTl=>?_);rotate_left
       ·intro w hSw;(try dsimp only at hSw);go_simp;all_goals with_reducible rfl
       try simp only [pT]
       refine tkT 1 (v:=?_) hTl hHeld rfl ?_ (fun hTl=>?_);rotate_left
       ·intro w hSw;(try dsimp only at hSw);go_simp;all_goals with_reducible rfl
       try simp only [pT]
       refine tkT 2 (v:=?_) hTl hHeld rfl ?_ (fun hTl=>?_);rotate_left
       ·intro w hSw;(try dsimp only at hSw);go_simp;all_goals with_reducible rfl
       try simp only [pT]
       refine tkT 3 (v:=?_) hTl hHeld rfl ?_ (fun hTl=>?_);rotate_left
       ·intro w hSw;(try dsimp only at hSw);go_simp;all_goals with_reducible rfl
       try simp only [pT]
       refine tkT 4 (v:=?_) hTl hHeld rfl ?_ (fun hTl=>?_);rotate_left
       ·intro w hSw;(try dsimp only at hSw);go_simp;all_goals with_reducible rfl
       try simp only [pT]
       refine tkT 6 (v:=?_) hTl hHeld rfl ?_ (fun hTl=>?_);rotate_left
       ·intro w hSw;(try dsimp only at hSw);go_simp;all_goals with_reducible rfl
       try simp only [pT]
       refine tkT 7 (v:=?_) hTl hHeld rfl ?_ (fun hTl=>?_);rotate_left
       ·intro w hSw;(try dsimp only at hSw);go_simp;all_goals with_reducible rfl
       try simp only [pT]
       refine tkT 8 (v:=?_) hTl hHeld rfl ?_ (fun hTl=>?_);rotate_left
       ·intro w hSw;(try dsimp only at hSw);go_simp;all_goals with_reducible rfl
       try simp only [pT]
       refine tkT 9 (v:=?_) hTl hHeld rfl ?_ (fun hTl=>?_);rotate_left
       ·intro w hSw;(try dsimp only at hSw);go_simp;all_goals with_reducible rfl
       try simp only [pT]
       clear hTl
       refine oneE 5 rfl (by kernel_rfl) (fun K hK=>?_)
       refine step_callC rfl 52 _ (by go_simp) hTw ?_
       intro e w2 h2;obtain ⟨g,T',ck',rfl,hT2,⟨T2,eT⟩,hg,hfr2⟩:=h2;refine ⟨_,rfl,?_⟩;have hcb2:Blk w2 w.heap.size 66 _:=(hfr2.block _ (Array.getElem?_eq_some_iff.1 HL.out.2.2.1).1 (by show w.heap.size≠_;omega)).trans HL.out.2.2.1;have bx2:Blk w2 wr.heap.size 106 _:=(hfr2.block _ (Array.getElem?_eq_some_iff.1 HL.out.2.2.2.1).1 (by have:=HL.out.2.1;show wr.heap.size≠_;omega)).trans HL.out.2.2.2.1
       refine hK.out _ _ (fun _=>⟨hcb2.cell 4,bx2.cell 0,bx2.cell 1,bx2.cell 2⟩) ?_
       clear hK K
       try simp only [pT]
       have hlo2:=HL.out.2.1
       refine oneE 10 rfl (by kernel_rfl) (fun K hK=>?_)
       go_simp
       refine hK.out _ _ (fun _=>⟨hcb2.cell 4,bx2.cell 0,bx2.cell 1,bx2.cell 2⟩) ?_
       clear hK K
       try simp only [pT]
       refine oneE 11 rfl (by kernel_rfl) (fun K hK=>?_)
       go_simp
       refine hK.out _ _ (fun _=>⟨(hcb2.alloc _).cell 4,(bx2.alloc _).cell 0,(bx2.alloc _).cell 1,(bx2.alloc _).cell 2⟩) ?_
       clear hK K
       try simp only [pT]
       have up2:∀ {k:Nat} {o:Obj},w.heap.size+1+1<k→wr.heap[k]?=some o→w2.heap[k]?=some o:=fun {k o} hk hbk=>by
        have e:=(HL.out.2.2.2.2.2.1.block k (Array.getElem?_eq_some_iff.1 hbk).1).trans hbk
        exact (hfr2.block k (Array.getElem?_eq_some_iff.1 e).1 (by show k≠_;omega)).trans e
       have hv2:RowX (fun k=>w.heap.size+1+1+1+1<k) w2 106 3 (.slice Av j cv) j (wcells l'):=hv.keep (fun k cs hk _ hbk=>up2 (by have hk':w.heap.size+1+1+1+1<k:=hk;omega) hbk) (fun _ h=>h)
       have hv3:RowX (fun k=>w.heap.size+1+1+1+1<k) (w2.alloc (.cells #[.pointer (some ⟨g,0,none⟩),.int .i64 y.n,.string y.s] 106)) 106 3 (.slice Av j cv) j (wcells l'):=hv2.keep (fun k cs _ _ hbk=>(Below.heap_alloc _ _ _ (Array.getElem?_eq_some_iff.1 hbk).1).trans hbk) (fun _ h=>h)
       refine oneE 12 rfl (by kernel_rfl) (fun K hK=>?_)
       refine step_push TPw (by rfl) (by rfl) 0 (by rfl) hv3.1 (by rfl) (reads_blk (cs:=#[.pointer (some ⟨g,0,none⟩),.int .i64 y.n,.string y.s]) (Blk.new w2 _ _) rfl) (by intro u hu;simp at hu;rcases hu with rfl | rfl | rfl <;> rfl) (by omega) (Nat.zero_le _) rfl (ys:=wcells (l'++[Wr.mk g y.n y.s])) (by rw [wcells_append];rfl) ?_
       intro A9 c9 w9 ho9 hg9 hl9;have b9:=blk_grown (hcb2.alloc _) hg9 (fun e=>by have h5:w.heap.size+1+1+1+1<w.heap.size:=hv.2 _ e;omega);have x9:=blk_grown (bx2.alloc _) hg9 (fun e=>HN.out.1 _ e rfl);have y9:=b9.frozen 4;have z9:=b9.cell 4
       refine hK.out _ _ (fun _=>⟨b9.cell 4,x9.cell 0,x9.cell 1,x9.cell 2⟩) ?_
       clear hK K
       try simp only [pT]
       refine oneE 13 rfl (by kernel_rfl) (fun K hK=>?_)
       go_simp
       refine hK.out _ _ (fun h=>absurd h (by decide)) ?_
       clear hK K
       try simp only [pT]
       refine oneE 14 rfl (by kernel_rfl) (fun K hK=>?_)
       go_simp
       refine hK.out _ _ (fun h=>absurd h (by decide)) ?_
       clear hK K
       try simp only [pT]
       refine doneE (by kernel_rfl) ?_ _
       go_wp2
       go_roundw
       case rel =>
        refine ⟨j+1,hlt,by go_num,?_⟩
        have hsub:∀ t∈T,t∈T':=fun t ht=>by rw [eT];exact List.mem_append_left _ ht
        exact CopyW.step (cs:=fun v=>#[.int .i64 q.room,.map (some (w.heap.size+1+1+1)),.map (some (w.heap.size+1+1+1+1)),.slice A3 q.chs.length c3,v,.bool q.armed,.int .i64 q.after,.int .i64 q.code]) (T:=T') (v:=.slice Av j cv) (W2:=w2) (W4:=w9) hT2 hcb2 (hh1.keep ((up2 (by omega) hh1.map).trans hh1.map.symm) hsub) (hh2.keep ((up2 (by omega) hh2.map).trans hh2.map.symm) hsub) hv2 (HL.out.2.2.2.2.1.more hsub) HL.out.1 hg ((Below.refl _ w2).alloc (Nat.le_refl _) _) hg9 ho9 hl9 rfl
       case measure =>
        simp only [intOf]
        omega
      ·have d2:decide (j<q.wrs.length)=false:=by simpa using hlt
       have hjl:j=q.wrs.length:=by omega
       have e3:wr.cell? ⟨db,3,none⟩=some (.slice A3 q.chs.length c3):=Blk.cell ((hT.bel.block _ hdb).trans hb) 3
       have f3:wr.frozen? ⟨w.heap.size,3,none⟩=false:=Blk.frozen hc 3
       have g3:wr.cell? ⟨w.heap.size,3,none⟩=some (.slice A3 q.chs.length c3):=Blk.cell hc 3
       have e6:(wr.setCell ⟨w.heap.size,3,none⟩ (.slice none 0 0)).cell? ⟨db,3,none⟩=some (.slice A3 q.chs.length c3):=(World.cell?_setCell_far _ _ _ _ (by show w.heap.size≠db;omega)).trans e3
       have HR:=Lib.hid (And.intro hT (And.intro hc (And.intro hh1 (And.intro hh2 (And.intro hv (And.intro hl hjl))))))
       clear hT hc hh1 hh2 hv hl hjl
       go_wp2
       clear e6 e3 f3 g3
       go_loopw [88] (fun n W=>∃ j:Nat,j≤q.chs.length∧n=.int .i64 j∧∃ T v3 v4 m',CopyC w fs C #[.int .i64 q.room,.map (some (w.heap.size+1+1+1)),.map (some (w.heap.size+1+1+1+1)),v3,v4,.bool q.armed,.int .i64 q.after,.int .i64 q.code] q.dir q.now q.wrs q.chs j T v3 v4 m' W) (fun n _=>q.chs.length-(intOf n).toNat)
       case atStart =>
        obtain ⟨hT,hc,hh1,hh2,hv,hl,hjl⟩:=HR.out
        subst hjl
        exact ⟨0,Nat.zero_le _,rfl,T,.slice none 0 0,v,[],CopyC.start hT hc hh1 hh2 hv hl⟩
       case round =>
        obtain ⟨j2,hj2,rfl,T3,v3,v4,m',hC3⟩:=hrel
        by_cases hlt2:j2<q.chs.length
        ·have d3:decide (j2<q.chs.length)=true:=by simpa using hlt2
         obtain ⟨y,hy⟩:∃ y,q.chs[j2]?=some y:=⟨_,List.getElem?_eq_getElem hlt2⟩
         obtain ⟨g0,c0',cur,hv0,hXg,hg0,hsz,hcur⟩:=hd.chs.row (by omega)
         obtain ⟨rfl,_,rfl⟩:A3=some ⟨g0,0,none⟩∧q.chs.length=q.chs.length∧c3=c0':=by simpa using hv0
         obtain ⟨ck3,hT3⟩:=hC3.tw
         have hgw:Blk wr g0 108 cur:=(hT3.bel.block _ hg0.lt).trans hg0
         have e0:wr.cell? ⟨g0,j2*3,none⟩=some (.string y.nm):=(hgw.cell _).trans (hcur _ _ ((cqcells_at hy 0 (by omega)).trans rfl))
         have e1:wr.cell? ⟨g0,j2*3+1,none⟩=some (.string y.to):=(hgw.cell _).trans (hcur _ _ ((cqcells_at hy 1 (by omega)).trans rfl))
         have i0:(0:Int)≤(j2:Int):=by omega
         have i1:(j2:Int)<(q.chs.length:Int):=by omega
         obtain ⟨Av3,cv3,rfl⟩:=hC3.ch.form
         cases hyf:y.f with
         | none =>
          have e2:wr.cell? ⟨g0,j2*3+2,none⟩=some (.pointer none):=by have:=(hgw.cell _).trans (hcur _ _ ((cqcells_at hy 2 (by omega)).trans rfl));rw [hyf] at this;exact this
          have bW:Below wr.heap.size wr (wr.alloc (.cells #[.string y.nm,.string y.to,.pointer none] 108)):=(Below.refl _ _).alloc (Nat.le_refl _) _
          have bx:=Blk.new wr 108 #[.string y.nm,.string y.to,.pointer none]
          have hC4:=hC3.off (Y:=fun _=>False) (Fr.of_below bW) (fun k h=>h.elim)
          have x0:(wr.alloc (.cells #[.string y.nm,.string y.to,.pointer none] 108)).cell? ⟨wr.heap.size,0,none⟩=some (.string y.nm):=bx.cell 0
          have x1:(wr.alloc (.cells #[.string y.nm,.string y.to,.pointer none] 108)).cell? ⟨wr.heap.size,1,none⟩=some (.string y.to):=bx.cell 1
          have x2:(wr.alloc (.cells #[.string y.nm,.string y.to,.pointer none] 108)).cell? ⟨wr.heap.size,2,none⟩=some (.pointer none):=bx.cell 2
          have x4:(wr.alloc (.cells #[.string y.nm,.string y.to,.pointer none] 108)).cell? ⟨w.heap.size,3,none⟩=some (.slice Av3 j2 cv3):=Blk.cell hC4.blk 3
          have hC5:=hC4.off (Y:=fun _=>False) (Fr.of_below ((Below.refl _ (wr.alloc (.cells #[.string y.nm,.string y.to,.pointer none] 108))).alloc (Nat.le_refl _) (.cells #[.string y.nm,.string y.to,.pointer none] 108))) (fun k h=>h.elim)
          have HL:=Lib.hid (And.intro hC3 (And.intro bx (And.intro hC4 (And.intro hC5 (And.intro hy hyf)))))
          clear hC3 bx hC4 bW hcur hgw hy hyf
          go_wp2_with (at_builtin;refine list_push TPc rfl rfl 0 rfl HL.out.2.2.2.1.ch.1 rfl (reads_blk (cs:=#[.string y.nm,.string y.to,.pointer none]) (blk_newH _ _ _ (by simp)) rfl) (by intro u hu;simp at hu;rcases hu with rfl | rfl | rfl <;> rfl) (by omega) (Nat.zero_le _) rfl (ys:=cqcells (m'++[Cq.mk y.nm y.to none])) (by rw [cqcells_append];rfl) ?_;intro A9 c9 w9 ho9 hg9 hl9;have b9:=blk_grown HL.out.2.2.2.1.blk hg9 (fun e=>by have h5:w.heap.size+1+1+1+1<w.heap.size:=HL.out.1.ch.2 _ e;omega);have y9:=b9.frozen 3;have z9:=b9.cell 3)
          go_roundw
          case rel =>
           exact ⟨j2+1,hlt2,by go_num,T3,.slice A9 (j2+1) c9,v4,_,CopyC.step HL.out.2.2.2.1 HL.out.2.2.2.2.1 (.inl ⟨HL.out.2.2.2.2.2,rfl⟩) hg9 ho9 hl9⟩
          case measure =>
           simp only [intOf]
           omega
         | some f =>
          have e2:wr.cell? ⟨g0,j2*3+2,none⟩=some (.pointer (some ⟨f,0,none⟩)):=by have:=(hgw.cell _).trans (hcur _ _ ((cqcells_at hy 2 (by omega)).trans rfl));rw [hyf] at this;exact this
          have bW:Below wr.heap.size wr (wr.alloc (.cells #[.string y.nm,.string y.to,.pointer (some ⟨f,0,none⟩)] 108)):=(Below.refl _ _).alloc (Nat.le_refl _) _
          have bx:=Blk.new wr 108 #[.string y.nm,.string y.to,.pointer (some ⟨f,0,none⟩)]
          have hC4:=hC3.off (Y:=fun _=>False) (Fr.of_below bW) (fun k h=>h.elim)
          have x0:(wr.alloc (.cells #[.string y.nm,.string y.to,.pointer (some ⟨f,0,none⟩)] 108)).cell? ⟨wr.heap.size,0,none⟩=some (.string y.nm):=bx.cell 0
          have x1:(wr.alloc (.cells #[.string y.nm,.string y.to,.pointer (some ⟨f,0,none⟩)] 108)).cell? ⟨wr.heap.size,1,none⟩=some (.string y.to):=bx.cell 1
          have x2:(wr.alloc (.cells #[.string y.nm,.string y.to,.pointer (some ⟨f,0,none⟩)] 108)).cell? ⟨wr.heap.size,2,none⟩=some (.pointer (some ⟨f,0,none⟩)):=bx.cell 2
          have x4:(wr.alloc (.cells #[.string y.nm,.string y.to,.pointer (some ⟨f,0,none⟩)] 108)).cell? ⟨w.heap.size,3,none⟩=some (.slice Av3 j2 cv3):=Blk.cell hC4.blk 3
          have f2:(wr.alloc (.cells #[.string y.nm,.string y.to,.pointer (some ⟨f,0,none⟩)] 108)).frozen? ⟨wr.heap.size,2,none⟩=false:=bx.frozen 2
          obtain ⟨ck4,hT4⟩:=hC4.tw
          have hTw:=twin_any hT4 hfv hlen (hcf y (List.mem_of_getElem? hy) f hyf)
          have hN3:∀ k,(Value.slice Av3 j2 cv3).ownBlock=some k→k<wr.heap.size:=fun k hk=>hC3.ch.lt hk
          have hN4:∀ k,v4.ownBlock=some k→k<wr.heap.size:=fun k hk=>by obtain ⟨l',hw,_⟩:=hC3.wr;exact hw.lt hk
          have hlo:=hC3.lo
          have HL:=Lib.hid (And.intro hC3 (And.intro bx (And.intro hC4 (And.intro hN3 (And.intro hy (And.intro hyf (And.intro hN4 hlo)))))))
          clear hC3 bx hC4 bW hcur hgw hy hyf hN3 hN4 hlo
          go_wp2_with (first
           | (go_at_call 52;refine hTw.mono ?_;rintro e w2 ⟨g,T',ck',rfl,hT2,⟨T2,eT⟩,hg,hfr2⟩;have hC5:=HL.out.2.2.1.twin hT2 eT hfr2;have bx2:Blk w2 wr.heap.size 108 _:=(hfr2.block _ HL.out.2.1.lt (by have:=HL.out.2.2.2.2.2.2.2;show wr.heap.size≠_;omega)).trans HL.out.2.1;have f2':=bx2.frozen 2;have y2:=bx2.cell 2;have bs2:Blk (w2.setCell ⟨wr.heap.size,2,none⟩ (.pointer (some ⟨g,0,none⟩))) wr.heap.size 108 #[.string y.nm,.string y.to,.pointer (some ⟨g,0,none⟩)]:=bx2.set_ 2 (.pointer (some ⟨g,0,none⟩));have hC6:=hC5.off (Y:=fun k=>k=wr.heap.size) ((Fr.refl (fun k=>k=wr.heap.size) w2).setCell (p:=⟨wr.heap.size,2,none⟩) (.inr rfl) (.pointer (some ⟨g,0,none⟩))) (fun k e=>⟨by have:=HL.out.2.2.2.2.2.2.2;omega,fun e3=>absurd (HL.out.2.2.2.1 k e3) (by omega),fun e4=>absurd (HL.out.2.2.2.2.2.2.1 k e4) (by omega),fun cs t ht=>by rw [e,show w2.heap[wr.heap.size]?=_ from bx2];intro h;injection h with h;injection h with h1 h2;subst h2;rcases ht with ht | ht <;> exact absurd ht (by decide)⟩);have z3:(w2.setCell ⟨wr.heap.size,2,none⟩ (.pointer (some ⟨g,0,none⟩))).cell? ⟨w.heap.size,3,none⟩=some (.slice Av3 j2 cv3):=Blk.cell hC6.blk 3;have s0:(w2.setCell ⟨wr.heap.size,2,none⟩ (.pointer (some ⟨g,0,none⟩))).cell? ⟨wr.heap.size,0,none⟩=some (.string y.nm):=Blk.cell bs2 0;have s1:(w2.setCell ⟨wr.heap.size,2,none⟩ (.pointer (some ⟨g,0,none⟩))).cell? ⟨wr.heap.size,1,none⟩=some (.string y.to):=Blk.cell bs2 1;have s2:(w2.setCell ⟨wr.heap.size,2,none⟩ (.pointer (some ⟨g,0,none⟩))).cell? ⟨wr.heap.size,2,none⟩=some (.pointer (some ⟨g,0,none⟩)):=Blk.cell bs2 2;have hC7:=hC6.off (Y:=fun _=>False) (Fr.of_below ((Below.refl _ (w2.setCell ⟨wr.heap.size,2,none⟩ (.pointer (some ⟨g,0,none⟩)))).alloc (Nat.le_refl _) (.cells #[.string y.nm,.string y.to,.pointer (some ⟨g,0,none⟩)] 108))) (fun k h=>h.elim))
           | (at_builtin;refine list_push TPc rfl rfl 0 rfl hC7.ch.1 rfl (reads_blk (cs:=#[.string y.nm,.string y.to,.pointer (some ⟨g,0,none⟩)]) (blk_newH _ _ _ (by simp)) rfl) (by intro u hu;simp at hu;rcases hu with rfl | rfl | rfl <;> rfl) (by omega) (Nat.zero_le _) rfl (ys:=cqcells (m'++[Cq.mk y.nm y.to (some g)])) (by rw [cqcells_append];rfl) ?_;intro A9 c9 w9 ho9 hg9 hl9;have b9:=blk_grown hC7.blk hg9 (fun e=>by have h5:w.heap.size+1+1+1+1<w.heap.size:=HL.out.1.ch.2 _ e;omega);have y9:=b9.frozen 3;have z9:=b9.cell 3))
          go_roundw
          case rel =>
           exact ⟨j2+1,hlt2,by go_num,T',.slice A9 (j2+1) c9,v4,_,CopyC.step hC7 HL.out.2.2.2.2.1 (.inr ⟨f,g,HL.out.2.2.2.2.2.1,rfl,hg⟩) hg9 ho9 hl9⟩
          case measure =>
           simp only [intOf]
           omega
        ·have d3:decide (j2<q.chs.length)=false:=by simpa using hlt2
         have hjl2:j2=q.chs.length:=by omega
         subst hjl2
         go_wp2
         go_ret
         exact ⟨rfl,_,_,_,_,hC3⟩
    ·have hf1:Fr (fun k=>k=wo.heap.size) wr w1:=⟨ho,ht,hu,by rw [hsz];exact Nat.le_refl _,fun k _ hk=>hbl k hk⟩
     obtain ⟨T,ckT,D2,k2,D1,k1,hT,hc,hh2,hh1⟩:=hC.off hf1 hr (fun cs t=>by rw [hit.1];simp)
     have hen1:=hen w1 hit1
     clear hen
     have hc1:w1.cell? ⟨w.heap.size,2,none⟩=some (.map (some (w.heap.size+1+1+1+1))):=hc.cell 2
     have hTw:=twin_any (hT.below (Below.refl _ w1).drew) hfv hlen (h2f x hx)
     have hlk:=hh1.look (seen_fresh hd.ok2 hx hs)
     have HL:=Lib.hid (And.intro hsm (And.intro hr (And.intro hit (And.intro hit1 (And.intro hT (And.intro hh1 (And.intro hh2 (And.intro hc hlk))))))))
     clear hsm hr hit hf1 hC hh2 hsz hbl ho ht hu hlk
     unfold DE.val at hnx hen1
     go_wp2
     go_region_held3 (fun W0=>W0.cell? ⟨w.heap.size,2,none⟩=some (.map (some (w.heap.size+1+1+1+1))))
      (first
       | exact hc1
       | exact hc2
       | exact hc3)
      (first
       | ((go_at_call 52;refine hTw.mono ?_;rintro e w2 ⟨g,T',ck',rfl,hT2,⟨T2,eT⟩,hg,hfr2⟩;have hfr3:Fr (fun k=>k=w.heap.size+1) w1 w2:=⟨hfr2.os,hfr2.tape,hfr2.output,hfr2.size,hfr2.block⟩;have hcb2:=(hfr3.block _ HL.out.2.2.2.2.2.2.2.1.lt (by omega)).trans HL.out.2.2.2.2.2.2.2.1;have hc2:w2.cell? ⟨w.heap.size,2,none⟩=some (.map (some (w.heap.size+1+1+1+1))):=Blk.cell hcb2 2;have hmp2:=(hfr3.block _ (Array.getElem?_eq_some_iff.1 hh1.map).1 (by omega)).trans hh1.map;obtain ⟨w3,hr3,hm3⟩:=run_put hmp2 (y:=⟨x.nm,g,k1⟩) HL.out.2.2.2.2.2.2.2.2 rfl;have hc3:w3.cell? ⟨w.heap.size,2,none⟩=some (.map (some (w.heap.size+1+1+1+1))):=(hm3.cell (by omega)).trans hc2;dsimp only [DE.val] at hr3)))
     go_wp2
     go_roundw
     case rel=>exact copy_step2 hd.ok2 HL.out.2.2.2.1 HL.out.2.1 HO.out.2.2.2.1 HL.out.2.2.2.2.2.2.2.1 HL.out.2.2.2.2.2.1 HL.out.2.2.2.2.2.2.1 hx hs hT2 eT hg hfr3 hm3
     case measure =>
      have hit3:=copy_it HL.out.2.2.2.1 HL.out.2.1 HO.out.2.2.2.1 hfr3 hm3 (by omega) (by have:=HL.out.2.1;omega)
      rw [hit3.seen,HL.out.2.2.1.seen]
      exact HL.out.1
  ·have hf1:Fr (fun k=>k=w.heap.size+1+1+1+1+1) wr w1:=⟨ho,ht,hu,by rw [hsz];exact Nat.le_refl _,fun k _ hk=>hbl k hk⟩
   obtain ⟨T,ckT,D1,k1,D2,k2,hT,hc,hh1,hh2⟩:=hC.off hf1 hr (fun cs t=>by rw [hit.1];simp)
   have hen1:=hen w1 hit1
   clear hen
   have hc1:w1.cell? ⟨w.heap.size,1,none⟩=some (.map (some (w.heap.size+1+1+1))):=hc.cell 1
   have hTw:=twin_any (hT.below (Below.refl _ w1).drew) hfv hlen (h1f x hx)
   have hlk:=hh1.look (seen_fresh hd.ok1 hx hs)
   have HL:=Lib.hid (And.intro hsm (And.intro hr (And.intro hit (And.intro hit1 (And.intro hT (And.intro hh1 (And.intro hh2 (And.intro hc hlk))))))))
   clear hsm hr hit hf1 hC hh2 hsz hbl ho ht hu hlk
   unfold DE.val at hnx hen1
   go_wp2
   go_region_held3 (fun W0=>W0.cell? ⟨w.heap.size,1,none⟩=some (.map (some (w.heap.size+1+1+1))))
    (first
     | exact hc1
     | exact hc2
     | exact hc3)
    (first
     | ((go_at_call 52;refine hTw.mono ?_;rintro e w2 ⟨g,T',ck',rfl,hT2,⟨T2,eT⟩,hg,hfr2⟩;have hfr3:Fr (fun k=>k=w.heap.size+1) w1 w2:=⟨hfr2.os,hfr2.tape,hfr2.output,hfr2.size,hfr2.block⟩;have hcb2:=(hfr3.block _ HL.out.2.2.2.2.2.2.2.1.lt (by omega)).trans HL.out.2.2.2.2.2.2.2.1;have hc2:w2.cell? ⟨w.heap.size,1,none⟩=some (.map (some (w.heap.size+1+1+1))):=Blk.cell hcb2 1;have hmp2:=(hfr3.block _ (Array.getElem?_eq_some_iff.1 hh1.map).1 (by omega)).trans hh1.map;obtain ⟨w3,hr3,hm3⟩:=run_put hmp2 (y:=⟨x.nm,g,k1⟩) HL.out.2.2.2.2.2.2.2.2 rfl;have hc3:w3.cell? ⟨w.heap.size,1,none⟩=some (.map (some (w.heap.size+1+1+1))):=(hm3.cell (by omega)).trans hc2;dsimp only [DE.val] at hr3)))
   go_wp2
   go_roundw
   case rel=>exact copy_step1 hd.ok1 HL.out.2.2.2.1 HL.out.2.1 HH.out.2.2.2.2 HL.out.2.2.2.2.2.2.2.1 HL.out.2.2.2.2.2.1 HL.out.2.2.2.2.2.2.1 hx hs hT2 eT hg hfr3 hm3
   case measure =>
    have hit3:=copy_it HL.out.2.2.2.1 HL.out.2.1 HH.out.2.2.2.2 hfr3 hm3 (by omega) (by have:=HL.out.2.1;omega)
    rw [hit3.seen,HL.out.2.2.1.seen]
    exact HL.out.1
end
section
open Go.RowKit
def gT (T:List PE) (f:Nat):Nat:=((lookE f T 0).map (·.2.dst)).getD 0
theorem gT_of {T:List PE} (hn:(T.map PE.src).Nodup) {t:PE} (ht:t∈T):t.dst=gT T t.src:=by
 unfold gT
 cases e:lookE t.src T 0 with
 | none=>exact absurd rfl (lookE_none.1 e t ht)
 | some r =>
  obtain ⟨h1,h2⟩:=lookE_some e
  have:r.2=t:=by
   have inj:∀ {l:List PE},(l.map PE.src).Nodup→∀ {x y:PE},x∈l→y∈l→x.src=y.src→x=y:=fun {l}=>by
    induction l with
    | nil=>intro _ x y hx;cases hx
    | cons z l ih =>
     intro hn x y hx hy e
     obtain ⟨h1,h2⟩:=List.nodup_cons.1 hn
     rcases List.mem_cons.1 hx with e1 | hx <;> rcases List.mem_cons.1 hy with e2 | hy
     ·rw [e1,e2]
     ·exact absurd (List.mem_map.2 ⟨y,hy,by rw [←e,e1]⟩) h1
     ·exact absurd (List.mem_map.2 ⟨x,hx,by rw [e,e2]⟩) h1
     ·exact ih h2 hx hy e
   exact inj hn h1 ht h2
  rw [←this];rfl
theorem Half.src {W:World} {M k:Nat} {l D:List DE} {T:List PE} (h:Half W M l T D k) (hl:(l.map DE.nm).Nodup) {y:DE} (hy:y∈l):y.f∈T.map PE.src:=by
 have h1:y.nm∈D.map DE.nm:=h.names.mem_iff.2 (List.mem_map.2 ⟨y,hy,rfl⟩)
 obtain ⟨x,hx,e⟩:=List.mem_map.1 h1
 obtain ⟨z,hz,e1,t,ht,e2,e3⟩:=h.tw x hx
 have:z=y:=de_inj hl hz hy (e1.trans e)
 subst this
 exact List.mem_map.2 ⟨t,ht,e2⟩
theorem WTw.src {T:List PE} {l l':List Wr} (h:WTw T l.length l l') {y:Wr} (hy:y∈l):y.f∈T.map PE.src:=by
 obtain ⟨j,hj,rfl⟩:=List.getElem_of_mem hy
 have hj':j<l'.length:=by have:=h.len;omega
 obtain ⟨z,h1,_,_,t,ht,e,_⟩:=h.at_ j l'[j] (List.getElem?_eq_getElem hj')
 rw [List.getElem?_eq_getElem hj] at h1
 injection h1 with h1
 subst h1
 exact List.mem_map.2 ⟨t,ht,e⟩
theorem CTw.src {T:List PE} {l l':List Cq} (h:CTw T l.length l l') {y:Cq} (hy:y∈l) {f:Nat} (hf:y.f=some f):f∈T.map PE.src:=by
 obtain ⟨j,hj,rfl⟩:=List.getElem_of_mem hy
 have hj':j<l'.length:=by have:=h.len;omega
 obtain ⟨z,h1,_,_,h2⟩:=h.at_ j l'[j] (List.getElem?_eq_getElem hj')
 rw [List.getElem?_eq_getElem hj] at h1
 injection h1 with h1
 subst h1
 rcases h2 with ⟨h2,_⟩ | ⟨f',g,h2,_,t,ht,e,_⟩
 ·rw [hf] at h2;cases h2
 ·rw [hf] at h2
  injection h2 with h2
  subst h2
  exact List.mem_map.2 ⟨t,ht,e⟩
theorem gT_inj {T:List PE} (hn:(T.map PE.src).Nodup) (hd:(T.map PE.dst).Nodup) {a b:Nat} (ha:a∈T.map PE.src) (hb:b∈T.map PE.src) (e:gT T a=gT T b):a=b:=by
 obtain ⟨x,hx,rfl⟩:=List.mem_map.1 ha
 obtain ⟨y,hy,rfl⟩:=List.mem_map.1 hb
 rw [←gT_of hn hx,←gT_of hn hy] at e
 have inj:∀ {l:List PE},(l.map PE.dst).Nodup→∀ {x y:PE},x∈l→y∈l→x.dst=y.dst→x=y:=fun {l}=>by
  induction l with
  | nil=>intro _ x y hx;cases hx
  | cons z l ih =>
   intro hn x y hx hy e
   obtain ⟨h1,h2⟩:=List.nodup_cons.1 hn
   rcases List.mem_cons.1 hx with e1 | hx <;> rcases List.mem_cons.1 hy with e2 | hy
   ·rw [e1,e2]
   ·exact absurd (List.mem_map.2 ⟨y,hy,by rw [←e,e1]⟩) h1
   ·exact absurd (List.mem_map.2 ⟨x,hx,by rw [e,e2]⟩) h1
   ·exact ih h2 hx hy e
 rw [inj hd hx hy e]
end
section
open Go.RowKit
theorem chq_map {fb g:Nat→Nat} (c:Ch):(⟨(chq fb c).nm,(chq fb c).to,(chq fb c).f.map g⟩:Cq)=chq (fun i=>g (fb i)) c:=by
 cases c <;> rfl
theorem chq_f {fb:Nat→Nat} {c:Ch} {f:Nat} (h:(chq fb c).f=some f):∃ i∈c.ids,f=fb i:=by
 cases c with
 | new nm i=>simp only [chq,Option.some.injEq] at h;exact ⟨i,by simp [Ch.ids],h.symm⟩
 | gone nm=>simp [chq] at h
 | moved a b=>simp [chq] at h
theorem chq_ids {fb:Nat→Nat} {c:Ch} {i:Nat} (h:i∈c.ids):(chq fb c).f=some (fb i):=by
 cases c with
 | new nm j=>simp [Ch.ids] at h;subst h;rfl
 | gone nm=>simp [Ch.ids] at h
 | moved a b=>simp [Ch.ids] at h
section
variable {X:Nat→Prop} {w:World} {db:Nat} {p:DP}
set_option maxHeartbeats 1000000 in
theorem pd_copy (h:PA X w db p):Calls Tryz.prog 15 #[.pointer (some ⟨db,0,none⟩)] w fun e w'=>∃ cb,e=.returned (.pointer (some ⟨cb,0,none⟩))∧PD (fun k=>w.heap.size≤k) w' cb p∧Below w.heap.size w w':=by
 obtain ⟨⟨M1,M2,v3,v4,q,fs,V,C,fb,hD,hF,ht⟩,hlt,ha,hch,hwr⟩:=h
 have hF':=hF.sub (fs':=p.live.map fb) (fun f hf=>by obtain ⟨i,hi,rfl⟩:=List.mem_map.1 hf;exact ht.mem i hi)
 have hlen:∀ f∈p.live.map fb,∀ b,(C f b).length≤5000:=fun f hf b=>by
  obtain ⟨i,hi,rfl⟩:=List.mem_map.1 hf
  have h1:=ht.wf.file_len i
  cases b with
  | false=>rw [ht.cs i hi];omega
  | true=>rw [ht.len_t hi];omega
 have hdir:∀ x∈q.dir,x.f∈p.live.map fb:=fun x hx=>by
  have h1:=(lkF_iff ht.ok1.nodup x.nm x.f).2 (List.mem_map.2 ⟨x,hx,rfl⟩)
  rw [ht.dir] at h1
  obtain ⟨i,h2,h3⟩:=Option.map_eq_some_iff.1 h1
  refine List.mem_map.2 ⟨i,?_,h3⟩
  unfold DP.live
  simp only [List.mem_append]
  exact .inl (.inl (List.mem_map.2 ⟨_,findP_mem h2,rfl⟩))
 have hnow:∀ x∈q.now,x.f∈p.live.map fb:=fun x hx=>by
  have h1:=(lkF_iff ht.ok2.nodup x.nm x.f).2 (List.mem_map.2 ⟨x,hx,rfl⟩)
  rw [ht.now] at h1
  obtain ⟨i,h2,h3⟩:=Option.map_eq_some_iff.1 h1
  exact List.mem_map.2 ⟨i,p.now_live _ (findP_mem h2),h3⟩
 have hws:∀ x∈q.wrs,x.f∈p.live.map fb:=fun x hx=>by
  rw [ht.wrs] at hx
  obtain ⟨y,hy,rfl⟩:=List.mem_map.1 hx
  refine List.mem_map.2 ⟨y.id,?_,rfl⟩
  unfold DP.live
  simp only [List.mem_append]
  exact .inr (List.mem_map.2 ⟨y,hy,rfl⟩)
 have hcs:∀ x∈q.chs,∀ f,x.f=some f→f∈p.live.map fb:=fun x hx f hf=>by
  rw [ht.chs] at hx
  obtain ⟨y,hy,rfl⟩:=List.mem_map.1 hx
  obtain ⟨i,hi,rfl⟩:=chq_f hf
  refine List.mem_map.2 ⟨i,?_,rfl⟩
  unfold DP.live
  simp only [List.mem_append]
  exact .inl (.inr (List.mem_flatMap.2 ⟨y,hy,hi⟩))
 refine (copy_0 hD hF' hdir hnow hws (by rw [ht.wrs];simpa using hwr) hcs (by rw [ht.chs];simpa using hch) hlen).mono ?_
 rintro e w' ⟨rfl,T,u3,u4,m',⟨ck,hT⟩,hb,⟨D1,k1,h1⟩,⟨D2,k2,h2⟩,⟨l',hw,hwt⟩,hc,hct⟩
 have hg:∀ t∈T,t.dst=gT T t.src:=fun t ht=>gT_of hT.one ht
 obtain ⟨V',C',hFF,hCC⟩:=hT.files
 have hsrc:∀ i∈p.live,fb i∈T.map PE.src:=fun i hi=>by
  unfold DP.live at hi
  simp only [List.mem_append] at hi
  rcases hi with (hi | hi) | hi
  ·obtain ⟨e,he,rfl⟩:=List.mem_map.1 hi
   have h3:=findP_of_mem ht.wf.dir.nodup he
   have h4:=ht.dir e.nm
   rw [h3] at h4
   have h5:=(lkF_iff ht.ok1.nodup _ _).1 h4
   obtain ⟨y,hy,e5⟩:=List.mem_map.1 h5
   injection e5 with e6 e7
   rw [←e7]
   exact h1.src ht.ok1.nodup hy
  ·obtain ⟨c,hc',hi⟩:=List.mem_flatMap.1 hi
   exact hct.src (by rw [ht.chs];exact List.mem_map.2 ⟨c,hc',rfl⟩) (chq_ids hi)
  ·obtain ⟨y,hy,rfl⟩:=List.mem_map.1 hi
   exact hwt.src (by rw [ht.wrs];exact List.mem_map.2 ⟨y,hy,rfl⟩:wrq fb y∈q.wrs)
 have hcon:∀ i∈p.live,∀ b,gT T (fb i)∈T.map PE.dst∧C' (gT T (fb i)) b=C (fb i) b:=fun i hi b=>by
  obtain ⟨t,htm,e⟩:=List.mem_map.1 (hsrc i hi)
  rw [←e,←hg t htm]
  exact ⟨List.mem_map.2 ⟨t,htm,rfl⟩,hCC t htm b⟩
 refine ⟨_,rfl,⟨w.heap.size+1+1+1,w.heap.size+1+1+1+1,u3,u4,⟨q.room,D1,k1,D2,k2,m',l',q.armed,q.after,q.code⟩,T.map PE.dst,V',C',fun i=>gT T (fb i),?_,hFF,?_⟩,hT.bel⟩
 ·refine ⟨hb,h1.map,h2.map,by omega,Nat.le_refl _,by omega,by omega,h1.ok,h2.ok,?_,?_⟩
  ·have e:m'.length=q.chs.length:=hct.len
   show RowX _ w' 108 3 u3 m'.length _
   rw [e]
   exact ⟨hc.1,fun k hk=>by have h5:w.heap.size+1+1+1+1<k:=hc.2 k hk;omega⟩
  ·have e:l'.length=q.wrs.length:=hwt.len
   show RowX _ w' 106 3 u4 l'.length _
   rw [e]
   exact ⟨hw.1,fun k hk=>by have h5:w.heap.size+1+1+1+1<k:=hw.2 k hk;omega⟩
 ·refine ⟨ht.wf,ht.arms,h1.ok,h2.ok,fun x=>?_,fun x=>?_,?_,?_,fun i hi j hj e=>?_,fun i hi=>(hcon i hi true).1,fun i hi=>(hcon i hi false).2.trans (ht.cs i hi),fun i hi=>(hcon i hi true).2.trans (ht.cn i hi)⟩
  ·show lkF x D1=_
   rw [h1.lkF ht.ok1.nodup hg x,ht.dir,Option.map_map];rfl
  ·show lkF x D2=_
   rw [h2.lkF ht.ok2.nodup hg x,ht.now,Option.map_map];rfl
  ·show m'=_
   rw [hct.all hg,ht.chs,List.map_map]
   exact List.map_congr_left fun c _=>chq_map c
  ·show l'=_
   rw [hwt.all hg,ht.wrs,List.map_map]
   rfl
  ·exact ht.inj i hi j hj (gT_inj hT.one hT.two (hsrc i hi) (hsrc j hj) e)
end
end
section
open Go.RowKit
section
variable {X:Nat→Prop} {w:World} {db rb:Nat} {p:DP}
theorem pd_len (h:PD X w db p) {nm:ByteArray} {i:Nat} (hf:findP nm p.now=some i) :
 Calls Tryz.prog 49 #[.pointer (some ⟨db,0,none⟩),.string nm] w fun e w'=>e=.returned (.tuple #[.int .i64 (p.file i).length,.nilIface])∧w=w':=by
 obtain ⟨M1,M2,v3,v4,q,fs,V,C,fb,hD,hF,ht⟩:=h
 have hl:lkF nm q.now=some (fb i):=by rw [ht.now,hf];rfl
 have hi:i∈p.live:=p.now_live _ (findP_mem hf)
 have:=Len_some hF hD hl (ht.mem i hi)
 rw [ht.len_t hi] at this
 exact this
theorem pd_pending (h:PD X w db p) :
 Calls Tryz.prog 47 #[.pointer (some ⟨db,0,none⟩)] w fun e w'=>e=.returned (.tuple #[.int .i64 p.wrs.length,.int .i64 p.chs.length])∧Below w.heap.size w w':=by
 obtain ⟨M1,M2,v3,v4,q,fs,V,C,fb,hD,hF,ht⟩:=h
 have:=Pending_any hD
 rw [ht.wrs,ht.chs,List.length_map,List.length_map] at this
 exact this
theorem rd_pending (h:RD X w rb p) :
 Calls Tryz.prog 48 #[.pointer (some ⟨rb,0,none⟩)] w fun e w'=>e=.returned (.tuple #[.int .i64 p.wrs.length,.int .i64 p.chs.length])∧Below w.heap.size w w':=by
 obtain ⟨vd,vc,vf,vw,V,L,W,hv⟩:=h
 exact RPending_any hv
theorem rd_len (h:RA X w rb p) {nm:ByteArray} {i:Nat} (hf:findP nm p.now=some i) :
 Calls Tryz.prog 50 #[.pointer (some ⟨rb,0,none⟩),.string nm] w fun e w'=>e=.returned (.tuple #[.int .i64 (p.file i).length,.int .i64 0])∧Below w.heap.size w w':=by
 obtain ⟨⟨vd,vc,vf,vw,V,L,W,hv⟩,hw,hlt,hnb,ha,hc,hww,hfl⟩:=h
 exact RLen_any hv hw hc hfl hf
theorem rd_look (h:RA X w rb p) (nm:ByteArray) (n:Int) :
 Calls Tryz.prog 51 #[.pointer (some ⟨rb,0,none⟩),.string nm,.int .i64 n] w fun e w'=>(∃ v,e=.returned (.tuple #[v,.int .i64 (lookP p nm n).1])∧StrOr w' v (lookP p nm n).2)∧Below w.heap.size w w':=by
 obtain ⟨⟨vd,vc,vf,vw,V,L,W,hv⟩,hw,hlt,hnb,ha,hc,hww,hfl⟩:=h
 exact RLook_any hv hw hc hww hfl nm n
theorem rd_names (h:RA X w rb p) :
 Calls Tryz.prog 46 #[.pointer (some ⟨rb,0,none⟩)] w fun e w'=>∃ v,e=.returned v∧w'.ownsRow w.heap.size 9 1 v (sN p.now).length ((sN p.now).map encStr)∧Below w.heap.size w w':=by
 obtain ⟨⟨vd,vc,vf,vw,V,L,W,hv⟩,hw,hlt,hnb,ha,hc,hww,hfl⟩:=h
 exact RNames_any hv hw hc
theorem PD.bound (h:PD X w db p):PD (fun k=>X k∧k<w.heap.size) w db p:=by
 obtain ⟨M1,M2,v3,v4,q,fs,V,C,fb,hD,hF,ht⟩:=h
 exact ⟨M1,M2,v3,v4,q,fs,V,C,fb,hD.bound,hF.bound,ht⟩
end
end
end Go.Proofs.YtekajggjoeimoaaGreatDoor
