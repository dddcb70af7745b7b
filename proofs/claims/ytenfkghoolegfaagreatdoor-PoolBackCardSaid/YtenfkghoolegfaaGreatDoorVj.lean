/- A part of the proof of PoolBack. No condition of its own. -/
import Derived.Test.YtenfkghoolegfaaGreatDoorVz
import Derived.Test.YtenfkghoolegfaaGreatDoorVi
import Derived.Test.YtenfkghoolegfaaGreatDoorVh
import Derived.ProofKit
import Derived.OpenShut
import Derived.ChangeOld
import Derived.Deep.Slices
import Derived.ChangeSame
import Derived.RangeFuncWrites
import Derived.OwnWalkIn
import Derived.RangeFuncLeaves
import Derived.RangeFuncFrom
import Derived.Sort.QuietTacIn
import Derived.WalkKit
import Derived.TacticsInMore
import Derived.RegionIn
import Derived.LoopNIn
import Derived.LoopIn
import Derived.OrdersIn
import Derived.AtR
import Derived.Sort.WalkD2
import Derived.Sort.Walk11
set_option maxHeartbeats 8000000
set_option maxRecDepth 1000000
set_option linter.unusedVariables false
namespace Go.Proofs.YtenfkghoolegfaaGreatDoor
section
open Go.RowKit Go.Maps Go.Sort Go.Shelf
open Go.WideElems (Fit rd rg)
noncomputable abbrev KOf (O:List KE):DataW Unit:=.map (((O.map KE.ent).map (rg Tryz.prog 22 Rv)).foldr DataW.insert [])
theorem kof_size (O:List KE):Maps.size (KOf O)=O.length:=by
 simp [Maps.size,(WideShapes.sorted_perm _).length_eq]
theorem kof_has {O:List KE} {ck:Nat} (h:MapOK O ck) (x:Int):has (KOf O) (.int .u32 x)=true↔∃ e∈O,x=(e.nm:Int):=by
 unfold KOf;rw [has_eq,List.any_eq_true];constructor
 ·rintro ⟨p,hp,hs⟩;have hp:=(WideShapes.sorted_perm _).mem_iff.1 hp;simp only [List.map_map,List.mem_map,Function.comp] at hp;obtain ⟨e,he,rfl⟩:=hp;simp only [rg,rd_ent (h.nm e he),Option.getD] at hs;refine ⟨e,he,?_⟩
  simpa [Lit.sameKey,eq_comm] using hs
 ·rintro ⟨e,he,rfl⟩;refine ⟨rg Tryz.prog 22 Rv e.ent,(WideShapes.sorted_perm _).mem_iff.2 (List.mem_map.2 ⟨_,List.mem_map.2 ⟨e,he,rfl⟩,rfl⟩),?_⟩;simp [rg,rd_ent (h.nm e he),Lit.sameKey]
theorem rise_same:∀ (a b:List Int),a.Pairwise (· < ·)->b.Pairwise (· < ·)->(∀ x,x∈a↔x∈b)->a=b
 | [],[],_,_,_=>rfl
 | [],y::b,_,_,h=>absurd ((h y).2 (by simp)) (by simp)
 | x::a,[],_,_,h=>absurd ((h x).1 (by simp)) (by simp)
 | x::a,y::b,ha,hb,h=>by
  rw [List.pairwise_cons] at ha hb
  have hxy:x=y:=by
   rcases List.mem_cons.1 ((h x).1 (by simp)) with e | e
   ·exact e
   ·rcases List.mem_cons.1 ((h y).2 (by simp)) with e2 | e2
    ·exact e2.symm
    ·have:=hb.1 x e;have:=ha.1 y e2;omega
  subst hxy;rw [rise_same a b ha.2 hb.2 fun z=>?_];constructor
  ·intro hz
   rcases List.mem_cons.1 ((h z).1 (by simp [hz])) with e | e
   ·have:=ha.1 z hz;omega
   ·exact e
  ·intro hz
   rcases List.mem_cons.1 ((h z).2 (by simp [hz])) with e | e
   ·have:=hb.1 z hz;omega
   ·exact e
theorem insO_mem {x y:Nat × List UInt8}:∀ {l:Over},y∈insO x l↔y=x\/y∈l
 | []=>by simp [insO]
 | z::l=>by
  unfold insO
  split
  ·simp
  ·rw [List.mem_cons,insO_mem,List.mem_cons];constructor
   ·rintro (h | h | h)
    ·exact .inr (.inl h)
    ·exact .inl h
    ·exact .inr (.inr h)
   ·rintro (h | h | h)
    ·exact .inr (.inl h)
    ·exact .inl h
    ·exact .inr (.inr h)
theorem sortO_mem {y:Nat × List UInt8}:∀ {l:Over},y∈sortO l↔y∈l
 | []=>Iff.rfl
 | x::l=>by
  show y∈insO x (sortO l)↔_;rw [insO_mem,sortO_mem,List.mem_cons]
theorem insO_rise {x:Nat × List UInt8}:∀ {l:Over},(l.map (·.1)).Pairwise (· < ·)->(∀ y∈l,y.1≠x.1)->((insO x l).map (·.1)).Pairwise (· < ·)
 | [],_,_=>by simp [insO]
 | z::l,h,hn=>by
  rw [List.map_cons,List.pairwise_cons] at h;have hz:=hn z (by simp);unfold insO
  split
  ·rename_i hle;rw [List.map_cons,List.pairwise_cons];refine ⟨fun b hb=>?_,by rw [List.map_cons,List.pairwise_cons];exact h⟩;rw [List.map_cons] at hb
   rcases List.mem_cons.1 hb with rfl | hb
   ·omega
   ·have:=h.1 b hb;omega
  ·rename_i hle;rw [List.map_cons,List.pairwise_cons];refine ⟨fun b hb=>?_,insO_rise h.2 fun y hy=>hn y (by simp [hy])⟩;obtain ⟨y,hy,rfl⟩:=List.mem_map.1 hb
   rcases insO_mem.1 hy with rfl | hy
   ·omega
   ·exact h.1 _ (List.mem_map.2 ⟨y,hy,rfl⟩)
theorem sortO_rise:∀ {l:Over},(l.map (·.1)).Nodup->((sortO l).map (·.1)).Pairwise (· < ·)
 | [],_=>List.Pairwise.nil
 | x::l,h=>by
  rw [List.map_cons,List.nodup_cons] at h;refine insO_rise (sortO_rise h.2) fun y hy e=>h.1 ?_;rw [<-e];exact List.mem_map.2 ⟨y,sortO_mem.1 hy,rfl⟩
theorem lookO_in:∀ {l:Over} {n:Nat} {b:List UInt8},(l.map (·.1)).Nodup->(n,b)∈l->lookO n l=some b
 | (k,c)::l,n,b,hn,h=>by
  rw [List.map_cons,List.nodup_cons] at hn;unfold lookO
  rcases List.mem_cons.1 h with e | h
  ·cases e;rw [if_pos rfl]
  ·rw [if_neg (fun e=>hn.1 (by subst e;exact List.mem_map.2 ⟨_,h,rfl⟩)),lookO_in hn.2 h]
theorem srt_pair:∀ {l:List Int},l.Nodup->Srt l l.length->l.Pairwise (· < ·)
 | [],_,_=>List.Pairwise.nil
 | x::l,hn,h=>by
  rw [List.nodup_cons] at hn;refine List.Pairwise.cons (fun y hy=>?_) (srt_pair hn.2 fun p q hp hq=>?_)
  ·obtain ⟨q,hq⟩:=List.mem_iff_getElem?.1 hy;have hql:=(lS.1 hq).1;have:=h 0 (q+1) (by omega) (by simp;omega);simp only [List.getD_eq_getElem?_getD,List.getElem?_cons_succ,List.getElem?_cons_zero,hq,Option.getD_some] at this;have hne:x≠y:=fun e=>hn.1 (e ▸ hy);omega
  ·have:=h (p+1) (q+1) (by omega) (by simp;omega)
   simpa [List.getD_eq_getElem?_getD] using this
theorem keys_sortO {l:Over} (hn:(l.map (·.1)).Nodup) {ss:List Int} (h1:ss.Nodup) (h2:∀ x,x∈ss↔∃ e∈l,x=(e.1:Int)) (h3:Srt ss ss.length):(ss.map fun x=>(x.toNat,(lookO x.toNat l).getD []))=sortO l:=by
 have e1:ss=(sortO l).map fun y=>(y.1:Int):=by
  refine rise_same _ _ (srt_pair h1 h3) ?_ fun x=>?_
  ·have:=sortO_rise hn;rw [List.pairwise_map] at this ⊢
   exact this.imp fun h=>by omega
  ·rw [h2,List.mem_map];constructor
   ·rintro ⟨e,he,rfl⟩;exact ⟨e,sortO_mem.2 he,rfl⟩
   ·rintro ⟨e,he,rfl⟩;exact ⟨e,sortO_mem.1 he,rfl⟩
 rw [e1,List.map_map];refine (List.map_congr_left (g:=id) fun y hy=>?_).trans (List.map_id _);have:=lookO_in hn (n:=y.1) (b:=y.2) (sortO_mem.1 hy);simp [Function.comp,this]
structure Im where
 n:Nat
 A:Option Addr
 c:Nat
 b:List UInt8
def Im.cs (x:Im):List Value:=[.int .u32 (x.n:Nat),.slice x.A 256 x.c]
def icells (I:List Im):List Value:=I.flatMap Im.cs
theorem icells_app (I J:List Im):icells I++icells J=icells (I++J):=by simp [icells]
theorem icells_one (I:List Im):∀ u∈icells I,u.oneCell'=true:=by
 intro u hu;unfold icells at hu;obtain ⟨x,_,hx⟩:=List.mem_flatMap.1 hu;unfold Im.cs at hx;simp only [List.mem_cons,List.not_mem_nil,or_false] at hx
 rcases hx with rfl | rfl <;> rfl
theorem TI:SlT Tryz.prog 61 124 2 32:=SlT.of Tryz.underlying61 (z:=.agg #[.int .u32 0,.slice none 0 0]) (by kernel_rfl) rfl (by omega) (by omega)
theorem own_other {W W':World} {base base' e e' s s' n n':Nat} {v v':Value} {xs ys:List Value} (h:W.ownsRow base e s v n xs) (hI:W.ownsRow base' e' s' v' n' ys) (hne:e≠e') (hg:W.grownBy W' v'.ownBlock):W'.ownsRow base e s v n xs:=by
 refine ⟨h.1,h.2.imp id ?_⟩;rintro ⟨g,cap,cur,e1,e2,e3,r⟩;refine ⟨g,cap,cur,e1,e2,(hg.block g (aS.1 e3).1 fun eg=>?_).trans e3,r⟩
 rcases hI.2 with ⟨h0,_⟩ | ⟨g',cap',cur',e1',_,e3',_⟩
 ·subst h0;cases eg
 ·subst e1'
  have:g=g':=by simpa [Value.ownBlock] using eg
  subst this;rw [e3] at e3'
  injection e3' with e3'
  injection e3' with _ e4 _
  exact hne e4
structure ImgsAt (base:Nat) (w:World) (I:List Im) (A:Option Addr) (c:Nat):Prop where
 row:w.ownsRow base 124 2 (.slice A I.length c) I.length (icells I)
 each:∀ x∈I,w.ownsRow base 5 1 (.slice x.A 256 x.c) 256 (bl x.b)/\x.b.length=256
end
section
open Go.RowKit
def cG (leaf:Bool) (b:List UInt8):Option PC:=if leaf then leafG b else innerG b
theorem GetLeaf_any {B:Nat} (A:Option Addr) (c:Nat) (b:List UInt8) (w:World) (hB:B<=w.heap.size) (hr:Reads w B 1 A b.length (bl b)) (hc:b.length<=c) (hl:b.length<=1000) :
 Calls Tryz.prog 171 #[.slice A b.length c] w fun e w'=>CellR (leafG b) w.heap.size e w'/\Below w.heap.size w w':=by
 rcases (show b=[]\/∃ n0 r,n0::r=b by cases b <;> simp) with rfl | ⟨n0,r,hbb⟩
 ·exact GetLeaf_nil A c w hB hr hc hl
 ·by_cases her:(getN (r.drop n0.toNat)).2.2=0
  ·by_cases hv:(getN (r.drop n0.toNat)).1<=1000
   ·by_cases h40:(getN (r.drop n0.toNat)).1<=40
    ·exact GetLeaf_val A c b w hB hr hc hl hbb her hv h40
    ·exact GetLeaf_over A c b w hB hr hc hl hbb her hv (by omega)
   ·exact GetLeaf_long A c b w hB hr hc hl hbb her (by omega)
  ·exact GetLeaf_err A c b w hB hr hc hl hbb her
theorem GetC_any {B:Nat} (leaf:Bool) (A:Option Addr) (c:Nat) (b:List UInt8) (w:World) (hB:B<=w.heap.size) (hr:Reads w B 1 A b.length (bl b)) (hc:b.length<=c) (hl:b.length<=1000) :
 Calls Tryz.prog (cgetF leaf) #[.slice A b.length c] w fun e w'=>CellR (cG leaf b) w.heap.size e w'/\Below w.heap.size w w':=by
 cases leaf with
 | true=>exact GetLeaf_any A c b w hB hr hc hl
 | false=>exact GetInner_any A c b w hB hr hc hl
theorem TC:SlT Tryz.prog 50 113 5 64:=SlT.of Tryz.underlying50 (z:=.agg #[.slice none 0 0,.int .i64 0,.slice none 0 0,.int .u32 0,.int .u32 0]) (by kernel_rfl) rfl (by omega) (by omega)
def ccells (L:List CX):List Value:=L.flatMap CX.cells
theorem ccells_app (a b:List CX):ccells a++ccells b=ccells (a++b):=by unfold ccells;rw [List.flatMap_append]
theorem ccells_one (L:List CX):∀ u∈ccells L,u.oneCell'=true:=by
 intro u hu;obtain ⟨x,_,hx⟩:=List.mem_flatMap.1 hu;simp only [CX.cells,List.mem_cons,List.not_mem_nil,or_false] at hx
 rcases hx with rfl | rfl | rfl | rfl | rfl <;> rfl
theorem ccells_get:∀ (L:List CX) (k:Nat) (x:CX),L[k]?=some x->∀ (j:Nat) (u:Value),x.cells[j]?=some u->(ccells L)[k*5+j]?=some u
 | [],k,x,h,j,u,_=>by simp at h
 | y::L,0,x,h,j,u,hu=>by
  simp only [List.getElem?_cons_zero,Option.some.injEq] at h;subst h;have hj:j<5:=(lS.1 hu).1;unfold ccells;rw [List.flatMap_cons,Nat.zero_mul,Nat.zero_add,List.getElem?_append_left (by exact hj)];exact hu
 | y::L,k+1,x,h,j,u,hu=>by
  rw [List.getElem?_cons_succ] at h;have ih:=ccells_get L k x h j u hu;unfold ccells at ih ⊢;rw [List.flatMap_cons,List.getElem?_append_right (by show 5<=_;omega),show (k+1)*5+j-y.cells.length=k*5+j by show _-5=_;omega];exact ih
structure CellsO (w:World) (B:Nat) (A:Option Addr) (c:Nat) (L:List CX):Prop where
 row:w.ownsRow B 113 5 (.slice A L.length c) L.length (ccells L)
 key:∀ x∈L,OwnB w B x.ka x.kc x.c.key
 val:∀ x∈L,OwnB w B x.va x.vc x.c.val
theorem CellsO.below {w w':World} {B:Nat} {A:Option Addr} {c:Nat} {L:List CX} (h:CellsO w B A c L) (hb:Below w.heap.size w w'):CellsO w' B A c L :=
 ⟨own_belN h.row hb,fun x hx=>(h.key x hx).below hb,fun x hx=>(h.val x hx).below hb⟩
theorem CellsO.at_ {w:World} {B:Nat} {A:Option Addr} {c:Nat} {L:List CX} (h:CellsO w B A c L):CellsAt w w.heap.size A L:=by
 refine ⟨?_,fun x hx=>(h.key x hx).rd,fun x hx=>(h.val x hx).rd⟩
 rcases Nat.eq_zero_or_pos L.length with h0 | h0
 ·exact .inl (List.length_eq_zero_iff.1 h0)
 ·right
  rcases h.row.2 with ⟨e1,e2⟩ | ⟨g,cap,cur,e1,e2,e3,r⟩
  ·omega
  ·simp only [Value.slice.injEq] at e1;obtain ⟨ad,e4,hlt,hc⟩:=(Reads.of_own h.row).2 h0;have eA:A=some ⟨g,0,none⟩:=e1.1;rw [eA] at e4
   cases e4
   refine ⟨g,0,eA,hlt,fun k x hx j u hu=>?_⟩;have:=hc _ u (ccells_get L k x hx j u hu);rw [Nat.zero_add];unfold Addr.add at this
   split at this
   ·rename_i h9;rw [h9];exact this
   ·simpa using this
theorem coder_get (a b:Value) (W:World):(Instr.field 211 (.agg #[a,b]) 1).run Tryz.prog W=.ok b W:=by rfl
theorem inS_at {b:List UInt8}:∀ (n i:Nat) (t:Nat->Bool),inS b n i t=true->∀ j,i<=j->j<i+n->atS b j+lnS b j<=243/\lnS b j<=78
 | 0,i,t,_,j,h1,h2=>absurd h2 (by omega)
 | n+1,i,t,h,j,h1,h2=>by
  unfold inS at h;simp only [Bool.and_eq_true,decide_eq_true_eq] at h;by_cases e:j=i
  ·subst e;exact ⟨h.1.1.1.2,h.1.1.2⟩
  ·exact inS_at n (i+1) _ h.2 j (by omega) (by omega)
theorem parseS_at {b:List UInt8} {l:List (List UInt8)} (h:parseS b=some l):l=(List.range (b.getD 0 0).toNat).map (cellS b)/\2+2*(b.getD 0 0).toNat<=243/\∀ j,j<(b.getD 0 0).toNat->atS b j+lnS b j<=243/\lnS b j<=78:=by
 unfold parseS at h
 split at h
 ·rename_i hh
  cases h
  exact ⟨rfl,hh.2.1,fun j hj=>inS_at _ 0 _ hh.2.2.2.2 j (zL _) (by omega)⟩
 ·cases h
theorem cellsG_none {kind:Int}:∀ {l:List (List UInt8)} {j:Nat} {x:List UInt8},l[j]?=some x->cellG kind x=none->cellsG kind l=none
 | [],j,x,h,_=>by simp at h
 | y::l,0,x,h,hx=>by
  simp only [List.getElem?_cons_zero,Option.some.injEq] at h;subst h;unfold cellsG;rw [hx]
 | y::l,j+1,x,h,hx=>by
  rw [List.getElem?_cons_succ] at h;unfold cellsG;rw [cellsG_none h hx]
  split <;> rfl
theorem cellsG_some {kind:Int}:∀ {l:List (List UInt8)} {r:List PC},l.map (cellG kind)=r.map some->cellsG kind l=some r
 | [],[],_=>rfl
 | [],_::_,h=>by simp at h
 | _::_,[],h=>by simp at h
 | y::l,c::r,h=>by
  simp only [List.map_cons,List.cons.injEq] at h;unfold cellsG;rw [h.1,cellsG_some h.2]
def CellsR (g:Option (List PC)) (B:Nat) (e:Ending) (w':World):Prop:=match g with
 | none=>e=.returned (.tuple #[.slice none 0 0,.bool false])
 | some l=>∃ (L:List CX) (A:Option Addr) (c:Nat),L.map CX.c=l/\e=.returned (.tuple #[.slice A L.length c,.bool true])/\CellsO w' B A c L
theorem own_other2 {W W':World} {base base' e' s' n':Nat} {v':Value} {ys:List Value} {A:Option Addr} {c:Nat} {b:List UInt8} (h:OwnB W base A c b) (hI:W.ownsRow base' e' s' v' n' ys) (hne:5≠e') (hg:W.grownBy W' v'.ownBlock):OwnB W' base A c b:=own_other h hI hne hg
theorem cells_none {B:Nat} (kind:Int) (a:Addr) (b:List UInt8) (w:World) (hB:B<=w.heap.size) (hr:Reads w B 1 (some a) b.length (bl b)) (hl:b.length=243) (hp:parseS b=none) :
 Calls Tryz.prog 115 #[.int .i64 kind,.slice (some a) 243 243] w fun e w'=>e=.returned (.tuple #[.slice none 0 0,.bool false])/\Below w.heap.size w w':=by
 have hP:=Parse_any a 243 b w hB hr hl;unfold ParseR at hP;rw [hp] at hP;simp only [Option.isSome_none,Bool.false_eq_true,if_false] at hP;go_enter Tryz.func115,Tryz.ntmps115
 go_wp2_with (first
  | (go_at_call 167;refine hP.mono ?_;rintro e w2 ⟨rfl,hb2⟩))
 go_ret2;exact ⟨rfl,hb2⟩
theorem cells_true {B:Nat} (kind:Int) (a:Addr) (b:List UInt8) (w:World) (hB:B<=w.heap.size) (hr:Reads w B 1 (some a) b.length (bl b)) (hl:b.length=243) {lst:List (List UInt8)} (hp:parseS b=some lst) (hleaf:decide (kind=3)=true) :
 Calls Tryz.prog 115 #[.int .i64 kind,.slice (some a) 243 243] w fun e w'=>CellsR (cellsG kind lst) w.heap.size e w'/\Below w.heap.size w w':=by
 have hP:=Parse_any a 243 b w hB hr hl;have hK:=fun W=>coderOf_any kind W;obtain ⟨hlst,h2,hat⟩:=parseS_at hp;unfold ParseR at hP;rw [hp] at hP;simp only [Option.isSome_some,if_true] at hP;rw [hleaf] at hK;unfold coderCs at hK;rw [show cgetF true=171 from rfl] at hK;have hfl:=coder_get (.func (.func (cputF true)) #[] #[]) (.func (.func 171) #[] #[]);have hL:=fun {W s} (h:SB W s b)=>SLen_any h
 obtain ⟨n,HN⟩:∃ n,Hid ((b.getD 0 0).toNat=n):=⟨_,lH rfl⟩
 have hn8:n<256:=by rw [<-HN.out];exact (b.getD 0 0).toNat_lt
 rw [HN.out] at hL hlst h2 hat;have HP:=lH (aI hlst hat);clear hlst hat hr hp;go_enter Tryz.func115,Tryz.ntmps115
 go_wp2_with (first
  | (go_at_call 168;refine (hL (hS.below hb3 hS.1.lt)).mono ?_;rintro e w4 ⟨rfl,h4⟩;subst h4)
  | (go_at_call 167;refine hP.mono ?_;rintro e w2 ⟨⟨s,rfl,hS,hs⟩,hb2⟩)
  | (go_at_call 119;refine (hK _).mono ?_;rintro e w3 ⟨rfl,hb3⟩))
 have hS3:=hS.below hb3 hS.1.lt;have hb23:=hb2.trans (hb3.mono hb2.size);clear hb2 hb3 hS hK hP hL hfl
 have hnl:lst.length=n:=by rw [HP.out.1,List.length_map,List.length_range]
 have hcG:∀ x,cellG kind x=cG true x:=fun x=>by
  unfold cellG
  first
   | (rw [if_pos (of_decide_eq_true hleaf)];rfl)
   | (rw [if_neg (of_decide_eq_false hleaf)];rfl)
 go_loopw [8,25] (fun l i wr=>∃ (k:Nat) (L:List CX) (A:Option Addr) (c:Nat),l=.slice A L.length c/\i=.int .i64 k/\k<=n/\L.length=k/\(lst.take k).map (cellG kind)=(L.map CX.c).map some/\CellsO wr w.heap.size A c L/\SB wr s b/\Below w.heap.size w wr) (fun _ i _=>n-(intOf i).toNat)
 case atStart=>exact ⟨0,[],none,0,rfl,rfl,zL _,rfl,rfl,⟨World.ownsRow_nil _ _ _ _,fun x hx=>absurd hx (List.not_mem_nil),fun x hx=>absurd hx (List.not_mem_nil)⟩,hS3,hb23⟩
 case round =>
  clear hS3 hb23;obtain ⟨k,L,A,c,rfl,rfl,hk,hLk,hLm,hCO,hS,hb⟩:=hrel
  obtain ⟨wo,rfl⟩:∃ wo,wo=wr:=⟨wr,rfl⟩
  have HLM:=lH (aI hLk hLm);clear hLk hLm;by_cases hlt:k<n
  ·have d1:decide (k<n)=true:=dT hlt;have d2:decide ((k:Int)<(n:Int))=true:=dT (by omega);have hC:=fun (W:World) (hW:SB W s b)=>SCell_any hW k (by rw [HN.out];exact hlt) (by rw [HN.out];exact h2) (HP.out.2 k hlt).1
   obtain ⟨cb,HCB⟩:∃ x,Hid (cellS b k=x):=⟨_,lH rfl⟩
   rw [HCB.out] at hC
   go_wp2_with (first
    | (go_at_call 169;refine (hC _ hS).mono ?_))
   rintro e w6 ⟨A6,c6,rfl,ho6,hb6⟩
   have hcap:cb.length<=c6:=by
    rcases Nat.eq_zero_or_pos cb.length with h0 | h0
    ·omega
    ·obtain ⟨g',c',e',hc',_⟩:=own_big ho6 h0;simp only [Value.slice.injEq] at e';omega
   have hcl:cb.length<=1000:=by rw [<-HCB.out];unfold cellS;rw [lK];have:=(HP.out.2 k hlt).2;omega
   have hG:=GetC_any true A6 c6 cb w6 (nR _) (Reads.of_own ho6) hcap hcl;rw [show cgetF true=171 from rfl] at hG;unfold CellR at hG
   have hLk:lst[k]?=some cb:=by rw [HP.out.1,List.getElem?_map,List.getElem?_range hlt,<-HCB.out];rfl
   have hgk:=hcG cb
   cases hcg:cG true cb with
   | none =>
    rw [hcg] at hG hgk;have hnone:cellsG kind lst=none:=cellsG_none hLk hgk;have HNO:=lH hnone;clear hnone hLk hgk hcg
    go_wp2_with (first
     | (go_at_call 171;refine hG.mono ?_))
    rintro e w7 ⟨rfl,hb7⟩;unfold cellV
    obtain ⟨w8,hw8⟩:∃ w8,w8=w7.alloc (.cells #[.slice none 0 0,.int .i64 0,.slice none 0 0,.int .u32 0,.int .u32 0] 113):=⟨_,rfl⟩
    have hb8:Below w7.heap.size w7 w8:=by rw [hw8];exact (bR _ _).alloc (nR _) _
    have HW8:=lH hw8;clear hw8;go_wp2;go_ret2;have hb67:=(hb.trans (hb6.mono hb.size)).trans (hb7.mono (nT hb.size hb6.size));rw [HNO.out];unfold CellsR
    first
     | exact ⟨rfl,hb67⟩
     | exact ⟨rfl,hb67.alloc hb67.size _⟩
   | some p =>
    rw [hcg] at hG hgk;have HGK:=lH (aI hLk hgk);clear hLk hgk hcg
    go_wp2_with (first
     | (go_at_call 171;refine hG.mono ?_))
    rintro e w7 ⟨⟨y,hy,rfl,hyk,hyv⟩,hb7⟩;subst hy;unfold CX.val cellV
    obtain ⟨w8,hw8⟩:∃ w8,w8=w7.alloc (.cells #[.slice y.ka y.c.key.length y.kc,.int .i64 y.c.size,.slice y.va y.c.val.length y.vc,.int .u32 (y.c.over:Nat),.int .u32 (y.c.kid:Nat)] 113):=⟨_,rfl⟩
    have hb8:Below w7.heap.size w7 w8:=by rw [hw8];exact (bR _ _).alloc (nR _) _
    have Z8:Blk w8 w7.heap.size 113 y.cells.toArray:=by rw [hw8];exact Blk.new _ _ _
    obtain ⟨w9,hw9⟩:∃ w9,w9=w8.alloc (.cells #[.slice y.ka y.c.key.length y.kc,.int .i64 y.c.size,.slice y.va y.c.val.length y.vc,.int .u32 (y.c.over:Nat),.int .u32 (y.c.kid:Nat)] 113):=⟨_,rfl⟩
    have hs8:w8.heap.size=w7.heap.size+1:=by rw [hw8];simp
    have hb9:Below w8.heap.size w8 w9:=by rw [hw9];exact (bR _ _).alloc (nR _) _
    have Z9:Blk w9 w8.heap.size 113 y.cells.toArray:=by rw [hw9];exact Blk.new _ _ _
    have e5:ccells [y]=y.cells:=by simp [ccells]
    have hrn:Reads w9 w9.heap.size 5 (some ⟨w7.heap.size+1,0,none⟩) 1 (ccells [y]):=by rw [e5,<-hs8];exact reads_blk Z9 rfl
    have hCO9:=(((hCO.below hb6).below hb7).below hb8).below hb9;clear hs8;have HW8:=lH hw8;have HW9:=lH hw9;clear hw8 hw9
    go_wp2_with (first
     | (rw [<-HW8.out,<-HW9.out];refine list_push TC rfl rfl w.heap.size rfl hCO9.row rfl hrn (ccells_one _) (by have:=HLM.out.1;omega) (nT hb.size (nT hb6.size (nT hb7.size (nT hb8.size hb9.size)))) (k:=(L++[y]).length) (by simp) (ccells_app _ _) ?_;intro A7 c7 w10 ho10 hg10 hob10))
    have hb69:Below wo.heap.size wo w9:=((hb6.trans (hb7.mono hb6.size)).trans (hb8.mono (nT hb6.size hb7.size))).trans (hb9.mono (nT hb6.size (nT hb7.size hb8.size)));have hb9w:Below w.heap.size w w9:=hb.trans (hb69.mono hb.size);have hb10:Below w.heap.size w w10:=hb9w.trans (grown_below hg10 hb9w.size (fun ad e=>by subst e;exact (hCO9.row.lt ad.block rfl).1));have hS9:=hS.below hb69 hS.1.lt
    have hS10:SB w10 s b:=by
     refine ⟨?_,hS9.2⟩;refine (hg10.block s hS9.1.lt fun eg=>?_).trans hS9.1
     rcases hCO9.row.2 with ⟨h0,_⟩ | ⟨g',cap',cur',e1',_,e3',_⟩
     ·rw [h0] at eg;cases eg
     ·rw [e1'] at eg
      have e9:s=g':=by simpa [Value.ownBlock] using eg
      subst e9;have:=hS9.1.symm.trans e3'
      injection this with this
      injection this with _ e4 _
      exact absurd e4 (by decide)
    have hy1:OwnB w9 w.heap.size y.ka y.kc y.c.key:=((hyk.lo (nT hb.size hb6.size)).below hb8).below hb9;have hy2:OwnB w9 w.heap.size y.va y.vc y.c.val:=((hyv.lo (nT hb.size hb6.size)).below hb8).below hb9
    have hCO10:CellsO w10 w.heap.size A7 c7 (L++[y]):=by
     refine ⟨ho10,fun x hx=>?_,fun x hx=>?_⟩
     ·rcases List.mem_append.1 hx with hx | hx
      ·exact own_other2 (hCO9.key x hx) hCO9.row (by decide) hg10
      ·simp only [List.mem_singleton] at hx;subst hx;exact own_other2 hy1 hCO9.row (by decide) hg10
     ·rcases List.mem_append.1 hx with hx | hx
      ·exact own_other2 (hCO9.val x hx) hCO9.row (by decide) hg10
      ·simp only [List.mem_singleton] at hx;subst hx;exact own_other2 hy2 hCO9.row (by decide) hg10
    have hm10:(lst.take (k+1)).map (cellG kind)=((L++[y]).map CX.c).map some:=by
     rw [List.take_add_one,HGK.out.1,List.map_append,HLM.out.2,List.map_append,List.map_append];simp [HGK.out.2]
    clear hCO9 hCO hS9 hy1 hy2 ho10 hrn;refine ⟨⟨k+1,L++[y],A7,c7,by rw [lQ];rfl,by go_num,by omega,by rw [lQ,HLM.out.1];rfl,hm10,hCO10,hS10,hb10⟩,?_⟩;simp [intOf];omega
  ·have d1:decide (k<n)=false:=dF hlt;have d2:decide ((k:Int)<(n:Int))=false:=dF (by omega)
   obtain rfl:k=n:=by omega
   go_wp2;go_ret2;rw [cellsG_some (r:=L.map CX.c) (by have:=HLM.out.2;rwa [List.take_of_length_le (by omega)] at this)];exact ⟨⟨L,A,c,rfl,rfl,hCO⟩,hb⟩
theorem cells_false {B:Nat} (kind:Int) (a:Addr) (b:List UInt8) (w:World) (hB:B<=w.heap.size) (hr:Reads w B 1 (some a) b.length (bl b)) (hl:b.length=243) {lst:List (List UInt8)} (hp:parseS b=some lst) (hleaf:decide (kind=3)=false) :
 Calls Tryz.prog 115 #[.int .i64 kind,.slice (some a) 243 243] w fun e w'=>CellsR (cellsG kind lst) w.heap.size e w'/\Below w.heap.size w w':=by
 have hP:=Parse_any a 243 b w hB hr hl;have hK:=fun W=>coderOf_any kind W;obtain ⟨hlst,h2,hat⟩:=parseS_at hp;unfold ParseR at hP;rw [hp] at hP;simp only [Option.isSome_some,if_true] at hP;rw [hleaf] at hK;unfold coderCs at hK;rw [show cgetF false=173 from rfl] at hK;have hfl:=coder_get (.func (.func (cputF false)) #[] #[]) (.func (.func 173) #[] #[]);have hL:=fun {W s} (h:SB W s b)=>SLen_any h
 obtain ⟨n,HN⟩:∃ n,Hid ((b.getD 0 0).toNat=n):=⟨_,lH rfl⟩
 have hn8:n<256:=by rw [<-HN.out];exact (b.getD 0 0).toNat_lt
 rw [HN.out] at hL hlst h2 hat;have HP:=lH (aI hlst hat);clear hlst hat hr hp;go_enter Tryz.func115,Tryz.ntmps115
 go_wp2_with (first
  | (go_at_call 168;refine (hL (hS.below hb3 hS.1.lt)).mono ?_;rintro e w4 ⟨rfl,h4⟩;subst h4)
  | (go_at_call 167;refine hP.mono ?_;rintro e w2 ⟨⟨s,rfl,hS,hs⟩,hb2⟩)
  | (go_at_call 119;refine (hK _).mono ?_;rintro e w3 ⟨rfl,hb3⟩))
 have hS3:=hS.below hb3 hS.1.lt;have hb23:=hb2.trans (hb3.mono hb2.size);clear hb2 hb3 hS hK hP hL hfl
 have hnl:lst.length=n:=by rw [HP.out.1,List.length_map,List.length_range]
 have hcG:∀ x,cellG kind x=cG false x:=fun x=>by
  unfold cellG
  first
   | (rw [if_pos (of_decide_eq_true hleaf)];rfl)
   | (rw [if_neg (of_decide_eq_false hleaf)];rfl)
 go_loopw [8,25] (fun l i wr=>∃ (k:Nat) (L:List CX) (A:Option Addr) (c:Nat),l=.slice A L.length c/\i=.int .i64 k/\k<=n/\L.length=k/\(lst.take k).map (cellG kind)=(L.map CX.c).map some/\CellsO wr w.heap.size A c L/\SB wr s b/\Below w.heap.size w wr) (fun _ i _=>n-(intOf i).toNat)
 case atStart=>exact ⟨0,[],none,0,rfl,rfl,zL _,rfl,rfl,⟨World.ownsRow_nil _ _ _ _,fun x hx=>absurd hx (List.not_mem_nil),fun x hx=>absurd hx (List.not_mem_nil)⟩,hS3,hb23⟩
 case round =>
  clear hS3 hb23;obtain ⟨k,L,A,c,rfl,rfl,hk,hLk,hLm,hCO,hS,hb⟩:=hrel
  obtain ⟨wo,rfl⟩:∃ wo,wo=wr:=⟨wr,rfl⟩
  have HLM:=lH (aI hLk hLm);clear hLk hLm;by_cases hlt:k<n
  ·have d1:decide (k<n)=true:=dT hlt;have d2:decide ((k:Int)<(n:Int))=true:=dT (by omega);have hC:=fun (W:World) (hW:SB W s b)=>SCell_any hW k (by rw [HN.out];exact hlt) (by rw [HN.out];exact h2) (HP.out.2 k hlt).1
   obtain ⟨cb,HCB⟩:∃ x,Hid (cellS b k=x):=⟨_,lH rfl⟩
   rw [HCB.out] at hC
   go_wp2_with (first
    | (go_at_call 169;refine (hC _ hS).mono ?_))
   rintro e w6 ⟨A6,c6,rfl,ho6,hb6⟩
   have hcap:cb.length<=c6:=by
    rcases Nat.eq_zero_or_pos cb.length with h0 | h0
    ·omega
    ·obtain ⟨g',c',e',hc',_⟩:=own_big ho6 h0;simp only [Value.slice.injEq] at e';omega
   have hcl:cb.length<=1000:=by rw [<-HCB.out];unfold cellS;rw [lK];have:=(HP.out.2 k hlt).2;omega
   have hG:=GetC_any false A6 c6 cb w6 (nR _) (Reads.of_own ho6) hcap hcl;rw [show cgetF false=173 from rfl] at hG;unfold CellR at hG
   have hLk:lst[k]?=some cb:=by rw [HP.out.1,List.getElem?_map,List.getElem?_range hlt,<-HCB.out];rfl
   have hgk:=hcG cb
   cases hcg:cG false cb with
   | none =>
    rw [hcg] at hG hgk;have hnone:cellsG kind lst=none:=cellsG_none hLk hgk;have HNO:=lH hnone;clear hnone hLk hgk hcg
    go_wp2_with (first
     | (go_at_call 173;refine hG.mono ?_))
    rintro e w7 ⟨rfl,hb7⟩;unfold cellV
    obtain ⟨w8,hw8⟩:∃ w8,w8=w7.alloc (.cells #[.slice none 0 0,.int .i64 0,.slice none 0 0,.int .u32 0,.int .u32 0] 113):=⟨_,rfl⟩
    have hb8:Below w7.heap.size w7 w8:=by rw [hw8];exact (bR _ _).alloc (nR _) _
    have HW8:=lH hw8;clear hw8;go_wp2;go_ret2;have hb67:=(hb.trans (hb6.mono hb.size)).trans (hb7.mono (nT hb.size hb6.size));rw [HNO.out];unfold CellsR
    first
     | exact ⟨rfl,hb67⟩
     | exact ⟨rfl,hb67.alloc hb67.size _⟩
   | some p =>
    rw [hcg] at hG hgk;have HGK:=lH (aI hLk hgk);clear hLk hgk hcg
    go_wp2_with (first
     | (go_at_call 173;refine hG.mono ?_))
    rintro e w7 ⟨⟨y,hy,rfl,hyk,hyv⟩,hb7⟩;subst hy;unfold CX.val cellV
    obtain ⟨w8,hw8⟩:∃ w8,w8=w7.alloc (.cells #[.slice y.ka y.c.key.length y.kc,.int .i64 y.c.size,.slice y.va y.c.val.length y.vc,.int .u32 (y.c.over:Nat),.int .u32 (y.c.kid:Nat)] 113):=⟨_,rfl⟩
    have hb8:Below w7.heap.size w7 w8:=by rw [hw8];exact (bR _ _).alloc (nR _) _
    have Z8:Blk w8 w7.heap.size 113 y.cells.toArray:=by rw [hw8];exact Blk.new _ _ _
    obtain ⟨w9,hw9⟩:∃ w9,w9=w8.alloc (.cells #[.slice y.ka y.c.key.length y.kc,.int .i64 y.c.size,.slice y.va y.c.val.length y.vc,.int .u32 (y.c.over:Nat),.int .u32 (y.c.kid:Nat)] 113):=⟨_,rfl⟩
    have hs8:w8.heap.size=w7.heap.size+1:=by rw [hw8];simp
    have hb9:Below w8.heap.size w8 w9:=by rw [hw9];exact (bR _ _).alloc (nR _) _
    have Z9:Blk w9 w8.heap.size 113 y.cells.toArray:=by rw [hw9];exact Blk.new _ _ _
    have e5:ccells [y]=y.cells:=by simp [ccells]
    have hrn:Reads w9 w9.heap.size 5 (some ⟨w7.heap.size+1,0,none⟩) 1 (ccells [y]):=by rw [e5,<-hs8];exact reads_blk Z9 rfl
    have hCO9:=(((hCO.below hb6).below hb7).below hb8).below hb9;clear hs8;have HW8:=lH hw8;have HW9:=lH hw9;clear hw8 hw9
    go_wp2_with (first
     | (rw [<-HW8.out,<-HW9.out];refine list_push TC rfl rfl w.heap.size rfl hCO9.row rfl hrn (ccells_one _) (by have:=HLM.out.1;omega) (nT hb.size (nT hb6.size (nT hb7.size (nT hb8.size hb9.size)))) (k:=(L++[y]).length) (by simp) (ccells_app _ _) ?_;intro A7 c7 w10 ho10 hg10 hob10))
    have hb69:Below wo.heap.size wo w9:=((hb6.trans (hb7.mono hb6.size)).trans (hb8.mono (nT hb6.size hb7.size))).trans (hb9.mono (nT hb6.size (nT hb7.size hb8.size)));have hb9w:Below w.heap.size w w9:=hb.trans (hb69.mono hb.size);have hb10:Below w.heap.size w w10:=hb9w.trans (grown_below hg10 hb9w.size (fun ad e=>by subst e;exact (hCO9.row.lt ad.block rfl).1));have hS9:=hS.below hb69 hS.1.lt
    have hS10:SB w10 s b:=by
     refine ⟨?_,hS9.2⟩;refine (hg10.block s hS9.1.lt fun eg=>?_).trans hS9.1
     rcases hCO9.row.2 with ⟨h0,_⟩ | ⟨g',cap',cur',e1',_,e3',_⟩
     ·rw [h0] at eg;cases eg
     ·rw [e1'] at eg
      have e9:s=g':=by simpa [Value.ownBlock] using eg
      subst e9;have:=hS9.1.symm.trans e3'
      injection this with this
      injection this with _ e4 _
      exact absurd e4 (by decide)
    have hy1:OwnB w9 w.heap.size y.ka y.kc y.c.key:=((hyk.lo (nT hb.size hb6.size)).below hb8).below hb9;have hy2:OwnB w9 w.heap.size y.va y.vc y.c.val:=((hyv.lo (nT hb.size hb6.size)).below hb8).below hb9
    have hCO10:CellsO w10 w.heap.size A7 c7 (L++[y]):=by
     refine ⟨ho10,fun x hx=>?_,fun x hx=>?_⟩
     ·rcases List.mem_append.1 hx with hx | hx
      ·exact own_other2 (hCO9.key x hx) hCO9.row (by decide) hg10
      ·simp only [List.mem_singleton] at hx;subst hx;exact own_other2 hy1 hCO9.row (by decide) hg10
     ·rcases List.mem_append.1 hx with hx | hx
      ·exact own_other2 (hCO9.val x hx) hCO9.row (by decide) hg10
      ·simp only [List.mem_singleton] at hx;subst hx;exact own_other2 hy2 hCO9.row (by decide) hg10
    have hm10:(lst.take (k+1)).map (cellG kind)=((L++[y]).map CX.c).map some:=by
     rw [List.take_add_one,HGK.out.1,List.map_append,HLM.out.2,List.map_append,List.map_append];simp [HGK.out.2]
    clear hCO9 hCO hS9 hy1 hy2 ho10 hrn;refine ⟨⟨k+1,L++[y],A7,c7,by rw [lQ];rfl,by go_num,by omega,by rw [lQ,HLM.out.1];rfl,hm10,hCO10,hS10,hb10⟩,?_⟩;simp [intOf];omega
  ·have d1:decide (k<n)=false:=dF hlt;have d2:decide ((k:Int)<(n:Int))=false:=dF (by omega)
   obtain rfl:k=n:=by omega
   go_wp2;go_ret2;rw [cellsG_some (r:=L.map CX.c) (by have:=HLM.out.2;rwa [List.take_of_length_le (by omega)] at this)];exact ⟨⟨L,A,c,rfl,rfl,hCO⟩,hb⟩
def parC (kind:Int) (b:List UInt8):Option (List PC):=match parseS b with
 | none=>none
 | some l=>cellsG kind l
theorem cells_any {B:Nat} (kind:Int) (a:Addr) (b:List UInt8) (w:World) (hB:B<=w.heap.size) (hr:Reads w B 1 (some a) b.length (bl b)) (hl:b.length=243) :
 Calls Tryz.prog 115 #[.int .i64 kind,.slice (some a) 243 243] w fun e w'=>CellsR (parC kind b) w.heap.size e w'/\Below w.heap.size w w':=by
 unfold parC
 cases hp:parseS b with
 | none=>exact cells_none kind a b w hB hr hl hp
 | some lst =>
  cases h:decide (kind=3) with
  | true=>exact cells_true kind a b w hB hr hl hp h
  | false=>exact cells_false kind a b w hB hr hl hp h
theorem cellG_fit {kind:Int} {b:List UInt8} {c:PC} (h:cellG kind b=some c):c.fit:=by
 unfold cellG at h
 split at h
 ·exact leafG_fit h
 ·exact (innerG_iff h).2.2
theorem cellsG_fit {kind:Int}:∀ {l:List (List UInt8)} {r:List PC},cellsG kind l=some r->(∀ c∈r,c.fit)/\r.length=l.length
 | [],r,h=>by
  unfold cellsG at h
  cases h
  exact ⟨fun c hc=>absurd hc (List.not_mem_nil),rfl⟩
 | b::l,r,h=>by
  unfold cellsG at h
  split at h
  ·cases h
  ·rename_i c hc
   split at h
   ·cases h
   ·rename_i r' hr
    cases h
    have ih:=cellsG_fit hr
    exact ⟨fun x hx=>by
     rcases List.mem_cons.1 hx with rfl | hx
     ·exact cellG_fit hc
     ·exact ih.1 x hx,by rw [List.length_cons,List.length_cons,ih.2]⟩
theorem read_cells {B:Nat} (kind:Nat) (hk:kind=2\/kind=3) (lsn:Nat) (a:Addr) (b:List UInt8) (w:World) (hB:B<=w.heap.size) (hr:Reads w B 1 (some a) b.length (bl b)) (hl:b.length=243) :
 Calls Tryz.prog 91 #[.agg #[.int .i64 (kind:Nat),.int .u64 (lsn:Nat),.slice (some a) 243 243]] w fun e w'=>∃ x:NX,e=.returned (.tuple #[x.val,.bool (readPg kind lsn b).isSome])/\(∀ n,readPg kind lsn b=some n->x.n=n)/\NodeAt w' w'.heap.size x/\NodeLo w.heap.size x/\Below w.heap.size w w':=by
 have k1:((kind:Int)==1)=false:=by simp;omega
 have k4:((kind:Int)==4)=false:=by simp;omega
 have k5:((kind:Int)==5)=false:=by simp;omega
 have hRP:readPg kind lsn b=match parC kind b with
  | none=>none
  | some c=>some ⟨kind,lsn,c,0,[],0,0,0,0⟩:=by
  unfold readPg;rw [if_neg (by omega),if_neg (by omega),if_neg (by omega)];unfold parC
  cases parseS b <;> rfl
 have hfit:∀ l,parC kind b=some l->(∀ c∈l,c.fit)/\l.length<=120:=by
  intro l h;unfold parC at h
  cases hp:parseS b with
  | none=>rw [hp] at h;cases h
  | some ls =>
   rw [hp] at h;have:=cellsG_fit h;exact ⟨this.1,by rw [this.2];exact parseS_len hp⟩
 have hC:=fun (W:World) (hW:Below w.heap.size w W)=>cells_any (kind:Int) a b W (nT hB hW.size) (hr.below (hW.mono hB)) hl
 obtain ⟨cl,HCL⟩:∃ c,Hid (parC (kind:Int) b=c):=⟨_,lH rfl⟩
 rw [HCL.out] at hRP hC hfit
 obtain ⟨w1,hw1⟩:∃ w1,w1=(w.alloc (.cells #[.int .i64 (kind:Nat),.int .u64 (lsn:Nat),.slice (some a) 243 243] 161)).alloc (.cells #[.int .i64 (kind:Nat),.int .u64 (lsn:Nat),.slice none 0 0,.int .u32 0,.slice none 0 0,.int .u32 0,.int .u32 0,.int .u32 0,.int .u64 0] 52):=⟨_,rfl⟩
 have hwa:Below w.heap.size w (w.alloc (.cells #[.int .i64 (kind:Nat),.int .u64 (lsn:Nat),.slice (some a) 243 243] 161)):=(bR _ w).alloc (nR _) _
 have hb1:Below w.heap.size w w1:=by rw [hw1];exact hwa.alloc hwa.size _
 have hN1:Blk w1 (w.heap.size+1) 52 #[.int .i64 (kind:Nat),.int .u64 (lsn:Nat),.slice none 0 0,.int .u32 0,.slice none 0 0,.int .u32 0,.int .u32 0,.int .u32 0,.int .u64 0]:=by rw [hw1];exact blk_newH _ _ _ (by simp)
 have HC:=hC w1 hb1;have HW1:=lH hw1;clear hC hr hw1 hwa;rw [hRP];clear hRP;go_enter Tryz.func91,Tryz.ntmps91
 go_wp2_with (first
  | (rw [<-HW1.out];go_at_call 115;refine HC.mono ?_))
 rintro e w2 ⟨hR,hb2⟩;have hN2:=hN1.below hb2 hN1.lt;have hs1:w.heap.size+2<=w1.heap.size:=hN1.lt;have c22:w2.cell? ⟨w.heap.size+1,2,none⟩=some (.slice none 0 0):=hN2.cell 2;have f22:=hN2.frozen 2;have hb12:Below w.heap.size w w2:=hb1.trans (hb2.mono hb1.size)
 have fin:∀ (A:Option Addr) (L:List CX) (c:Nat),L.length<=120->(∀ y∈L,y.c.fit)->CellsO w2 w1.heap.size A c L->∀ w3,w3=(w2.setCell ⟨w.heap.size+1,2,none⟩ (.slice A L.length c)).setRow (w.heap.size+1) #[.int .i64 (kind:Nat),.int .u64 (lsn:Nat),.slice A L.length c,.int .u32 0,.slice none 0 0,.int .u32 0,.int .u32 0,.int .u32 0,.int .u64 0] ->
  NodeAt w3 w3.heap.size ⟨kind,lsn,A,c,L,0,none,0,[],0,0,0,0⟩/\NodeLo w.heap.size ⟨kind,lsn,A,c,L,0,none,0,[],0,0,0,0⟩/\Below w.heap.size w w3:=by
  rintro A L c hL hf hO w3 rfl
  have hfr:Fr (fun k=>k=w.heap.size+1) w2 ((w2.setCell ⟨w.heap.size+1,2,none⟩ (.slice A L.length c)).setRow (w.heap.size+1) #[.int .i64 (kind:Nat),.int .u64 (lsn:Nat),.slice A L.length c,.int .u32 0,.slice none 0 0,.int .u32 0,.int .u32 0,.int .u32 0,.int .u64 0]) :=
   ((Fr.refl (fun k=>k=w.heap.size+1) w2).setCell (p:=⟨w.heap.size+1,2,none⟩) (.inr rfl) _).trans (fS _ _ _)
  have hO':CellsO _ w1.heap.size A c L:=⟨own_frN hO.row hfr (fun ad e h=>by have:=own_ge hO.row ad e;omega),fun x hx=>(hO.key x hx).fr hfr (fun k hk=>by omega),fun x hx=>(hO.val x hx).fr hfr (fun k hk=>by omega)⟩
  refine ⟨⟨hO'.at_,Reads.none_,hf,by show L.length<=_;omega,zL _⟩,⟨fun ad e=>?_,fun ad e=>(by cases e),fun y hy ad e=>?_,fun y hy ad e=>?_⟩,hb12.trans (hfr.below (B:=w.heap.size) hb12.size (fun k hk=>by omega))⟩
  ·have:=own_ge hO.row ad e;omega
  ·have:=(hO.key y hy).ge ad e;omega
  ·have:=(hO.val y hy).ge ad e;omega
 cases cl with
 | none =>
  unfold CellsR at hR;subst hR;have hN3:=hN2.set_ 2 (.slice none 0 0)
  go_wp2_with (first
   | (refine wpList_load_row rfl 52 _ rfl _ rfl _ _ _ _ hN3 Tryz.underlying52 rfl (by kernel_rfl) ?_)
   | (refine wpList_store_row rfl 52 _ _ rfl (w.heap.size+1) _ rfl rfl 52 _ hN3 (by kernel_rfl) rfl (by simp [Value.oneCell']) ?_))
  refine bodyPost_ret (rT rfl _ _ (w.heap.size+1) 52 _ (0,0) _ rfl (setRow_heap _ _ _ _ _ _ hN3) Tryz.underlying52 rfl (by kernel_rfl)) rfl ?_;have hfin:=fin none [] 0 (by decide) (fun y hy=>absurd hy (List.not_mem_nil)) ⟨World.ownsRow_nil _ _ _ _,fun x hx=>absurd hx (List.not_mem_nil),fun x hx=>absurd hx (List.not_mem_nil)⟩ _ rfl;exact ⟨⟨kind,lsn,none,0,[],0,none,0,[],0,0,0,0⟩,rfl,hfin⟩
 | some l =>
  unfold CellsR at hR;obtain ⟨L,A,c,hLl,rfl,hO⟩:=hR;have hlf:=hfit l rfl;have hN3:=hN2.set_ 2 (.slice A L.length c)
  go_wp2_with (first
   | (refine wpList_load_row rfl 52 _ rfl _ rfl _ _ _ _ hN3 Tryz.underlying52 rfl (by kernel_rfl) ?_)
   | (refine wpList_store_row rfl 52 _ _ rfl (w.heap.size+1) _ rfl rfl 52 _ hN3 (by kernel_rfl) rfl (by simp [Value.oneCell']) ?_))
  refine bodyPost_ret (rT rfl _ _ (w.heap.size+1) 52 _ (0,0) _ rfl (setRow_heap _ _ _ _ _ _ hN3) Tryz.underlying52 rfl (by kernel_rfl)) rfl ?_;have hfin:=fin A L c (by rw [<-hLl,List.length_map] at hlf;exact hlf.2) (fun y hy=>hlf.1 _ (by rw [<-hLl];exact List.mem_map.2 ⟨y,hy,rfl⟩)) hO _ rfl;refine ⟨⟨kind,lsn,A,c,L,0,none,0,[],0,0,0,0⟩,rfl,?_,hfin⟩;unfold NX.n;rw [hLl]
theorem ReadC_23 (kind:Nat) (hk:kind=2\/kind=3) (lsn:Nat) (b:List UInt8):ReadC kind lsn b:=by
 intro B a w hB hr hl;exact read_cells kind hk lsn a b w hB hr hl
theorem ReadC_all (kind:Nat) (h1:1<=kind) (h5:kind<=5) (lsn:Nat) (b:List UInt8):ReadC kind lsn b:=by
 have:kind=1\/(kind=2\/kind=3)\/kind=4\/kind=5:=by omega
 rcases this with rfl | h | rfl | rfl
 ·exact ReadC_1 lsn b
 ·exact ReadC_23 kind h lsn b
 ·exact ReadC_4 lsn b
 ·exact ReadC_5 lsn b
theorem NGet_any {B:Nat} (A:Option Addr) (c:Nat) (b:List UInt8) (w:World) (hB:B<=w.heap.size) (hr:Reads w B 1 A b.length (bl b)) (hc:b.length<=c) :
 Calls Tryz.prog 69 #[.slice A b.length c] w fun e w'=>GetR b w.heap.size e w w' :=
 Get_of A c b w hB hr hc fun he=>by
  obtain ⟨_,_,h1,h5,_⟩:=seal_open he;exact ReadC_all _ h1 h5 _ _
end
section
open Go.RowKit
open Ev (ev AS AObj st1 c3 noCnv VRel LRel Hands hBase cxOK globT Fact)
namespace Km
def no (_:Nat):Bool:=false
def tok (k:Nat):Value:=.chan (some k)
noncomputable def C1:Ev.Ctx:=Ev.CX [] [] [] noCnv no
noncomputable def flt1 (k:Int):AObj:=.cells ⟨c3 (tok 0) (tok 1) (.iface 80 (.int .i64 k)),3,138,1,false,false⟩
def iArgs (k:Int):List Value:=[.iface 134 (.pointer (some ⟨0,0,none⟩)),.iface 80 (.int .i64 k)]
theorem is_run:isTr ((ev C1 1000).f 35 (iArgs 7) (st1 (flt1 7)))=true:=by kernel_rfl
end Km
open Km
def om1 (op nm:ByteArray):Nat->Value
 | 0=>.string op
 | 1=>.string nm
 | k=>.pointer (some ⟨5,k-hBase,none⟩)
section
variable {op nm:ByteArray}
theorem hands1:Hands (om1 op nm):=fun t=>by
 have:hBase+t=(hBase+t-2)+2:=by unfold hBase;omega
 rw [this];show Value.pointer (some ⟨5,hBase+t-2+2-hBase,none⟩)=_;rw [show hBase+t-2+2-hBase=t by unfold hBase;omega]
theorem c1OK:Ev.COK (om1 op nm) C1:=cxOK hands1 (fun p hp=>by cases hp) (fun f hf=>by cases hf) (fun f hf=>by cases hf) Ev.noCnv_ok no
def GlobAt (w:World):Prop:=w.cell? ⟨0,0,none⟩=some (.iface 187 (.agg #[.pointer (some ⟨5,37,none⟩)]))
theorem bs1 {w:World} (hg:GlobAt w) (ht:PowAt w):Ev.Bs (om1 op nm) C1 2 w:=by
 have h1:1<w.heap.size:=by
  unfold PowAt at ht
  rcases Nat.lt_or_ge 1 w.heap.size with h | h
  ·exact h
  ·rw [Array.getElem?_eq_none h] at ht;cases ht
 refine ⟨h1,fun g v h=>⟨?_,(glob_of hands1 hg g v h).2⟩,(fun k h=>by cases h),fun g cs h=>?_⟩
 ·have h':globT g=some v:=h;unfold globT at h'
  cases hb:Nat.beq g 0 with
  | false=>rw [hb] at h';cases h'
  | true=>have:=bE hb;omega
 ·have h':Ev.ivT g=some cs:=h;unfold Ev.ivT at h'
  cases hb:Nat.beq g 1 with
  | false=>rw [hb] at h';cases h'
  | true =>
   have:=bE hb;subst this;rw [hb] at h';refine ⟨by omega,?_⟩;unfold PowAt at ht
   split at ht
   ·rename_i cs' t fz he
    cases ht
    cases h'
    exact ⟨t,fz,he⟩
   ·cases ht
theorem is_none {w:World} (hg:GlobAt w) (ht:PowAt w) {B:Nat} {v:Value} (h:ErrV B w op nm 7 v) (hB:2<=B) :
 Calls Tryz.prog 35 #[v,.iface 80 (.int .i64 7)] w fun e w'=>e=.returned (.bool true)/\Fr (fun k=>B<=k) w w':=by
 rcases h with ⟨h,_⟩ | ⟨_,r,rfl,hr,hb⟩
 ·cases h
 obtain ⟨s,hs⟩:=isTr_some is_run;refine (Ev.run_one (B:=2) (i:=⟨r,0,3,1,false,3⟩) c1OK hs (Ev.or_three hb (.tok 0 rfl) (.tok 1 rfl) (.iface _ _ _ (.plain _ rfl))) (by show 2<=r;omega) (aS.1 hb).1 (LRel.cons (.iface _ _ _ (.ptr _ _ ⟨rfl,_,rfl,rfl⟩)) (LRel.cons (.iface _ _ _ (.plain _ rfl)) (LRel.nil _))) (bs1 hg ht) rfl).mono ?_;rintro e w' ⟨v',m',rfl,hv,hf,ho⟩;refine ⟨by rw [Ev.plain_inv hv rfl],hf.mono (fun k _ e=>by have e:k=r:=e;omega)⟩
end
end
end Go.Proofs.YtenfkghoolegfaaGreatDoor
namespace Go.Proofs.YtenfkghoolegfaaGreatDoor
open Go.ChangeShapes Go.WideShapes Go.ChangeAt Go.RowKit Go.Joins Go.Deep
section
variable {H:Type} {enc:TypeId × Value->H} {w:World} {base:Nat} {held:Bool}
end
theorem pow_of {W:World} (h:laidMetH Tryz.prog laidL W):PowAt W:=by
 obtain ⟨_,t,fz,e⟩:=iv_of h 1 _ rfl;unfold PowAt;rw [e]
theorem pow_lt {W:World} (h:PowAt W):1<W.heap.size:=by
 rcases Nat.lt_or_ge 1 W.heap.size with h1 | h1
 ·exact h1
 ·unfold PowAt at h;rw [Array.getElem?_eq_none (by omega)] at h
  cases h
theorem globBelow {w w1:World} (h:GlobAt w) (hb:Below w.heap.size w w1):GlobAt w1:=(hb.cell (World.block_lt_of_cell? w _ h)).trans h
end Go.Proofs.YtenfkghoolegfaaGreatDoor
namespace Go.Proofs.YtenfkghoolegfaaGreatDoor.Ev
open Go.RowKit
variable {ω:Nat->Value}
def spDig (i j:Nat):SpF
 | [.chan (some k)],s=>cond (Nat.beq k i) (some (.chan (some j),s)) none
 | _,_=>none
end Go.Proofs.YtenfkghoolegfaaGreatDoor.Ev
namespace Go.Proofs.YtenfkghoolegfaaGreatDoor
section
open Go.RowKit
open Ev (ev AS AObj st1 c3 noCnv VRel LRel Hands hBase cxOK globT Fact)
namespace Mc
def no (_:Nat):Bool:=false
def tok (k:Nat):Value:=.chan (some k)
def cnv (a b:TypeId) (x:Value):Option Value:=match x with
 | .chan (some 3)=>cond (Nat.beq a 80 && Nat.beq b 3) (some (.chan (some 3))) none
 | _=>none
def fs:List Fact:=[⟨.neq,tok 0,tok 0,.bool false⟩,⟨.neq,tok 1,tok 1,.bool false⟩]
noncomputable def C1:Ev.Ctx:=Ev.CX [] fs [] cnv no
noncomputable def flt:AObj:=.cells ⟨c3 (tok 0) (tok 1) (.iface 80 (tok 3)),3,138,1,false,false⟩
def errP:Value:=.iface 134 (.pointer (some ⟨0,0,none⟩))
def isT3 (r:Option (Value × AS)):Bool:=match r with
 | some (.chan (some 3),_)=>true
 | _=>false
theorem ptold_run:isT3 ((ev C1 1000).f 27 [errP,tok 0,tok 1] (st1 flt))=true:=by kernel_rfl
theorem code_run:isT3 ((ev C1 1000).f 41 [errP] (st1 flt))=true:=by kernel_rfl
end Mc
open Mc
def om3 (op nm op1:ByteArray) (k:Int):Nat->Value
 | 0=>.string op
 | 1=>.string nm
 | 2=>.string op1
 | 3=>.int .i64 k
 | n=>.pointer (some ⟨5,n-hBase,none⟩)
def FltC (c:Array Value) (d:Nat) (x y z:Value):Prop:=c[d]?=some x/\c[d+1]?=some y/\c[d+2]?=some z
def ErrW (B:Nat) (w:World) (op nm:ByteArray) (k:Int) (v:Value):Prop :=
 (k=0/\v=.nilIface)\/(k≠0/\∃ r d c fz,v=.iface 134 (.pointer (some ⟨r,d,none⟩))/\B<=r/\w.heap[r]?=some (.cells c 138 fz)/\d+3<=c.size/\FltC c d (.string op) (.string nm) (.iface 80 (.int .i64 k))/\(fz=(0,0)\/fz=(c.size,c.size+1)))
theorem ErrV.w {B:Nat} {w:World} {op nm:ByteArray} {k:Int} {v:Value} (h:ErrV B w op nm k v):ErrW B w op nm k v :=
 h.imp id fun ⟨h1,r,e,hB,hr⟩=>⟨h1,r,0,_,_,e,hB,hr,nR _,⟨rfl,rfl,rfl⟩,.inl rfl⟩
section
variable {op nm op1:ByteArray} {k:Int}
theorem hands3:Hands (om3 op nm op1 k):=fun t=>by
 have:hBase+t=(hBase+t-4)+4:=by unfold hBase;omega
 rw [this];show Value.pointer (some ⟨5,hBase+t-4+4-hBase,none⟩)=_;rw [show hBase+t-4+4-hBase=t by unfold hBase;omega]
theorem fs_ok:∀ f∈fs,f.ok (om3 op nm op1 k) Tryz.prog:=by
 intro f hf;simp only [fs,List.mem_cons,List.not_mem_nil,or_false] at hf
 rcases hf with rfl | rfl
 ·exact Fact.strNeq (ω:=om3 op nm op1 k) (s:=op) (u:=op) rfl rfl rfl rfl (by simp)
 ·exact Fact.strNeq (ω:=om3 op nm op1 k) (s:=nm) (u:=nm) rfl rfl rfl rfl (by simp)
theorem conv_errno {k:Int} (hk:0<=k/\k<4611686018427387904) (w:World):(convert 80 3 (.int .i64 k)).run Tryz.prog w=.ok (.int .i64 k) w:=by
 have hw:IntKind.i64.wrap k=k:=by rw [IntKind.wrap_i64];omega
 simp [convert,run_underlying Tryz.underlying80,run_underlying Tryz.underlying3,Conv.intToInt,hw]
theorem cnv_ok (hk:0<=k/\k<4611686018427387904):∀ src dst x v,cnv src dst x=some v->∀ (m:Ev.M (om3 op nm op1 k)) (x':Value) (w:World),VRel m x x'->∃ v',(convert src dst x').run Tryz.prog w=.ok v' w/\VRel m v v':=by
 intro src dst x v hv m x' w hx;unfold cnv at hv
 split at hv
 ·cases hb:(Nat.beq src 80 && Nat.beq dst 3) with
  | false=>rw [hb] at hv;cases hv
  | true =>
   rw [hb] at hv
   cases hv
   rw [Bool.and_eq_true] at hb;have e1:=bE hb.1;have e2:=bE hb.2;subst e1 e2;obtain rfl:=Ev.tok_inv hx;exact ⟨_,conv_errno hk w,.tok 3 rfl⟩
 ·cases hv
theorem c3OK (hk:0<=k/\k<4611686018427387904):Ev.COK (om3 op nm op1 k) C1:=cxOK hands3 (fun p hp=>by cases hp) fs_ok (fun f hf=>by cases hf) (cnv_ok hk) no
theorem bs3 {w:World} (hg:GlobAt w) (ht:PowAt w):Ev.Bs (om3 op nm op1 k) C1 2 w:=by
 have h1:1<w.heap.size:=pow_lt ht;refine ⟨h1,fun g v h=>⟨?_,(glob_of hands3 hg g v h).2⟩,(fun k h=>by cases h),fun g cs h=>?_⟩
 ·have h':globT g=some v:=h;unfold globT at h'
  cases hb:Nat.beq g 0 with
  | false=>rw [hb] at h';cases h'
  | true=>have:=bE hb;omega
 ·have h':Ev.ivT g=some cs:=h;unfold Ev.ivT at h'
  cases hb:Nat.beq g 1 with
  | false=>rw [hb] at h';cases h'
  | true =>
   have:=bE hb;subst this;rw [hb] at h';refine ⟨by omega,?_⟩;unfold PowAt at ht
   split at ht
   ·rename_i cs' t fz he
    cases ht
    cases h'
    exact ⟨t,fz,he⟩
   ·cases ht
theorem or_flt {w:World} {r d:Nat} {fz:Nat × Nat} {cs:Array Value} {a b c a' b' c':Value} (h:w.heap[r]?=some (.cells cs 138 fz)) (hd:d+3<=cs.size) (hc:FltC cs d a' b' c') (hz:fz=(0,0)\/fz=(cs.size,cs.size+1)) (ha:VRel (Ev.m1 (om3 op nm op1 k) ⟨r,d,3,1,false,cs.size⟩) a a') (hb:VRel (Ev.m1 (om3 op nm op1 k) ⟨r,d,3,1,false,cs.size⟩) b b') (hcc:VRel (Ev.m1 (om3 op nm op1 k) ⟨r,d,3,1,false,cs.size⟩) c c') :
 Ev.ORel (Ev.m1 (om3 op nm op1 k) ⟨r,d,3,1,false,cs.size⟩) w ⟨r,d,3,1,false,cs.size⟩ (.cells ⟨c3 a b c,3,138,1,false,false⟩):=by
 refine ⟨rfl,rfl,rfl,hd,_,_,h,rfl,fun j hj=>?_,hz.imp id fun e=>⟨e,rfl⟩⟩;have hj':j<3:=hj;unfold c3
 match j,hj' with
 | 0,_=>exact ⟨a,a',by simp [Ev.T.get_put],hc.1,ha⟩
 | 1,_=>exact ⟨b,b',by simp [Ev.T.get_put],hc.2.1,hb⟩
 | 2,_=>exact ⟨c,c',by simp [Ev.T.get_put],hc.2.2,hcc⟩
theorem isT3_some {r:Option (Value × AS)} (h:isT3 r=true):∃ s,r=some (tok 3,s):=by
 unfold isT3 at h
 split at h
 ·exact ⟨_,rfl⟩
 ·cases h
theorem code_any {B:Nat} {w:World} (hg:GlobAt w) (ht:PowAt w) {v:Value} (h:ErrW B w op nm k v) (hB:2<=B) (hk:0<=k/\k<4611686018427387904) :
 Calls Tryz.prog 41 #[v] w fun e w'=>e=.returned (.int .i64 k)/\Fr (fun j=>B<=j) w w':=by
 rcases h with ⟨rfl,rfl⟩ | ⟨_,r,d,cs,fz,rfl,hr,hb,hd,hcc,hz⟩
 ·go_enter Tryz.func41,Tryz.ntmps41;go_wp2;go_ret;exact ⟨rfl,Fr.refl _ _⟩
 obtain ⟨s,hs⟩:=isT3_some code_run;refine (Ev.run_one (ω:=om3 op nm ⟨#[]⟩ k) (B:=2) (i:=⟨r,d,3,1,false,cs.size⟩) (c3OK hk) hs (or_flt hb hd hcc hz (.tok 0 rfl) (.tok 1 rfl) (.iface _ _ _ (.tok 3 rfl))) (by show 2<=r;omega) (aS.1 hb).1 (LRel.cons (.iface _ _ _ (.ptr _ _ ⟨rfl,_,rfl,rfl⟩)) (LRel.nil _)) (bs3 hg ht) rfl).mono ?_;rintro e w' ⟨v',m',rfl,hv,hf,ho⟩;exact ⟨by rw [Ev.tok_inv hv];rfl,hf.mono (fun j _ e=>by have e:j=r:=e;omega)⟩
theorem ptold_any {B:Nat} {w:World} (hg:GlobAt w) (ht:PowAt w) {v:Value} (h:ErrW B w op nm k v) (hB:2<=B) (hk:0<=k/\k<4611686018427387904) :
 Calls Tryz.prog 27 #[v,.string op,.string nm] w fun e w'=>e=.returned (.int .i64 k)/\Fr (fun j=>B<=j) w w':=by
 rcases h with ⟨rfl,rfl⟩ | ⟨_,r,d,cs,fz,rfl,hr,hb,hd,hcc,hz⟩
 ·go_enter Tryz.func27,Tryz.ntmps27;go_wp2;go_ret;exact ⟨rfl,Fr.refl _ _⟩
 obtain ⟨s,hs⟩:=isT3_some ptold_run;refine (Ev.run_one (ω:=om3 op nm ⟨#[]⟩ k) (B:=2) (i:=⟨r,d,3,1,false,cs.size⟩) (c3OK hk) hs (or_flt hb hd hcc hz (.tok 0 rfl) (.tok 1 rfl) (.iface _ _ _ (.tok 3 rfl))) (by show 2<=r;omega) (aS.1 hb).1 (LRel.cons (.iface _ _ _ (.ptr _ _ ⟨rfl,_,rfl,rfl⟩)) (LRel.cons (.tok 0 rfl) (LRel.cons (.tok 1 rfl) (LRel.nil _)))) (bs3 hg ht) rfl).mono ?_;rintro e w' ⟨v',m',rfl,hv,hf,ho⟩;exact ⟨by rw [Ev.tok_inv hv];rfl,hf.mono (fun j _ e=>by have e:j=r:=e;omega)⟩
end
end
section
open Go.RowKit
def sPage:ByteArray:=⟨#[112,97,103,101]⟩
def digB (n:Nat):ByteArray:=⟨(Lib.decDigits n).toArray⟩
theorem MemPage_some {B:Nat} (A:Option Addr) (c:Nat) (ps:List Pt) (n:Nat) (p:Pt) (hp:ps[n]?=some p) (w:World) (hB:B<=w.heap.size) (hr:Reads w w.heap.size 1 A ps.length (ps.map Pt.val)) (hl:ps.length<=3000000) (hrp:Reads w B 1 p.A p.b.length (bl p.b)) (hlp:p.b.length<=3000000) :
 Calls Tryz.prog 243 #[.agg #[.slice A ps.length c],.int .u32 (n:Nat)] w fun e w'=>∃ A' c',e=.returned (.tuple #[.slice A' p.b.length c',.nilIface])/\OwnB w' w.heap.size A' c' p.b/\Below w.heap.size w w':=by
 have hn:n<ps.length:=(lS.1 hp).1;obtain ⟨a,rfl,ha,hcs⟩:=hr.2 (by omega);have hcn:w.cell? (a.add n)=some p.val:=hcs n p.val (by rw [List.getElem?_map,hp];rfl);unfold Pt.val at hcn
 have u1:IntKind.u64.wrap (n:Int)=(n:Int):=by rw [IntKind.wrap_u64];omega
 have u2:IntKind.u64.wrap (ps.length:Int)=(ps.length:Int):=by rw [IntKind.wrap_u64];omega
 have d1:decide ((ps.length:Int)<=(n:Int))=false:=dF (by omega);have d2:decide (ps.length<=n)=false:=dF (by omega)
 have d3:(n:Int)<(ps.length:Int):=by omega
 have hCl:=fun W (hW:Below w.heap.size w W)=>BClone_any p.A p.c p.b W (hrp.below (hW.mono hB)) (nT hB hW.size) (by omega);have HCL:=lH hCl;have hb1:Below w.heap.size w (w.alloc (.cells #[.slice (some a) ps.length c] 66)):=(bR _ _).alloc (nR _) _;have hcn1:(w.alloc (.cells #[.slice (some a) ps.length c] 66)).cell? (a.add n)=some (.slice p.A p.b.length p.c):=(hb1.cell (by rw [block_of_add];exact ha)).trans hcn;clear hCl hcs hr hrp;go_enter Tryz.func243,Tryz.ntmps243
 go_wp2_with (first
  | (go_at_call 68;refine (HCL.out _ hb1).mono ?_;rintro e w2 ⟨A',c',rfl,ho,hb⟩))
 go_ret2;exact ⟨A',c',rfl,own_le ho (by simp),hb1.trans (hb.mono hb1.size)⟩
theorem MemPage_none (A:Option Addr) (m c:Nat) (n:Nat) (hn32:n<4294967296) (hn:m<=n) (w:World) (htab:PowAt w) :
 Calls Tryz.prog 243 #[.agg #[.slice A m c],.int .u32 (n:Nat)] w fun e w'=>∃ v,e=.returned (.tuple #[.slice none 0 0,v])/\ErrV w.heap.size w' sPage (digB n) 7 v/\Below w.heap.size w w':=by
 have u1:IntKind.u64.wrap (n:Int)=(n:Int):=by rw [IntKind.wrap_u64];omega
 have u2:IntKind.u64.wrap (m:Int)=(m:Int):=by rw [IntKind.wrap_u64];omega
 have d1:decide ((m:Int)<=(n:Int))=true:=dT (by omega);have d2:decide (m<=n)=true:=dT (by omega);go_enter Tryz.func243,Tryz.ntmps243;have hb1:Below w.heap.size w (w.alloc (.cells #[.slice A m c] 66)):=(bR _ _).alloc (nR _) _;have hD:=digits_any n hn32 _ (powBelow htab hb1);have hF:=fun nm W=>fault_any sPage nm 7 W;unfold sPage at hF
 go_wp2_with (first
  | (go_at_call 54;refine hD.mono ?_;rintro e w3 ⟨rfl,hb3⟩)
  | (go_at_call 51;refine (hF _ _).mono ?_;rintro e w4 ⟨v,rfl,hv,hb4⟩))
 go_ret2;have hb3':=hb1.trans (hb3.mono hb1.size);exact ⟨v,rfl,hv.lo hb3'.size,hb3'.trans (hb4.mono hb3'.size)⟩
theorem page_meth (v:Value) (W:World):(method 440 66 v "Page").run Tryz.prog W=.ok (243,v) W:=by kernel_rfl
def BytesR (r:Except Int (List UInt8)) (B:Nat) (e:Ending) (w':World):Prop:=match r with
 | .error k=>e=.returned (.tuple #[.slice none 0 0,.int .i64 k])
 | .ok b=>∃ A c,e=.returned (.tuple #[.slice A b.length c,.int .i64 0])/\OwnB w' B A c b
theorem code_nil (w:World):Calls Tryz.prog 41 #[.nilIface] w fun e w'=>e=.returned (.int .i64 0)/\w'=w:=by
 go_enter Tryz.func41,Tryz.ntmps41;go_wp2;go_ret;exact ⟨rfl,rfl⟩
theorem bytes_src {X:Nat->Prop} {w:World} {T M:Nat} {t:PT} (h:TX X w T M t) (n:Nat) (hn32:n<4294967296) (hn:n<t.pages) (hl:lookO n t.over=none) (hz:¬ (n=0/\t.changed=true)) (hg:GlobAt w) (ht:PowAt w) :
 Calls Tryz.prog 65 #[.pointer (some ⟨T,0,none⟩),.int .u32 (n:Nat)] w fun e w'=>BytesR (pageT t n) w.heap.size e w'/\Below w.heap.size w w':=by
 have hpg:pageT t n=match t.src[n]? with
  | some b=>.ok b
  | none=>.error 7:=by
  unfold pageT;rw [if_neg (by omega),hl];simp only;rw [if_neg hz];rfl
 obtain ⟨O,ck,src,h⟩:=h;have f0:w.cell? ⟨T,0,none⟩=some src:=h.blk.cell 0;have f3:w.cell? ⟨T,3,none⟩=some (.int .u32 (t.pages:Nat)):=h.blk.cell 3;have f6:w.cell? ⟨T,6,none⟩=some (.map (some M)):=h.blk.cell 6;have f7:w.cell? ⟨T,7,none⟩=some (.bool t.changed):=h.blk.cell 7;rw [h.over,over_look n O 0] at hl
 have hk:look n O 0=none:=by
  cases hk:look n O 0 with
  | none=>rfl
  | some r=>rw [hk] at hl;cases hl
 have HM:=lH (aI h.map hk);have d1:decide ((t.pages:Int)<=(n:Int))=false:=dF (by omega);have d2:decide (t.pages<=n)=false:=dF (by omega);obtain ⟨A,c,ps,e1,e2,h1,h0,h2,h3⟩:=h.src;subst e1;rw [e2] at hpg;rw [hpg];rw [List.getElem?_map]
 have hcz:(((n:Int)==0)=false)\/(n=0/\t.changed=false):=by
  by_cases e:n=0
  ·exact .inr ⟨e,by cases hc:t.changed with
    | false=>rfl
    | true=>exact absurd ⟨e,hc⟩ hz⟩
  ·exact .inl (by simpa using e)
 clear hz;have hme:=fun v W=>page_meth v W;have h1lt:=pow_lt ht
 cases hp:ps[n]? with
 | some p =>
  simp only [Option.map_some];have hpm:=mG hp;have hMp:=MemPage_some A c ps n p hp w (nR _) h1 h0 (h3 p hpm).rd (h3 p hpm).long;clear h h1 h2 h3 hl hk hpg
  rcases hcz with zn | ⟨rfl,hch⟩
  ·go_enter Tryz.func65,Tryz.ntmps65
   go_wp2_with (first
    | (refine wpList_look_none rfl (.tmp 15) (.tmp 16) rfl rfl rfl HM.out.1 HM.out.2 ?_)
    | (go_at_call 243;refine hMp.mono ?_))
   rintro e w2 ⟨A',c',rfl,ho,hb2⟩;have hcode:=code_nil w2
   go_wp2_with (first
    | (go_at_call 41;refine hcode.mono ?_))
   rintro e w3 ⟨rfl,rfl⟩;go_wp2;go_ret2;exact ⟨⟨A',c',rfl,ho⟩,hb2⟩
  ·rw [hch] at f7;go_enter Tryz.func65,Tryz.ntmps65
   go_wp2_with (first
    | (refine wpList_look_none rfl (.tmp 15) (.tmp 16) rfl rfl rfl HM.out.1 HM.out.2 ?_)
    | (go_at_call 243;refine hMp.mono ?_))
   rintro e w2 ⟨A',c',rfl,ho,hb2⟩;have hcode:=code_nil w2
   go_wp2_with (first
    | (go_at_call 41;refine hcode.mono ?_))
   rintro e w3 ⟨rfl,rfl⟩;go_wp2;go_ret2;exact ⟨⟨A',c',rfl,ho⟩,hb2⟩
 | none =>
  simp only [Option.map_none]
  have hnp:ps.length<=n:=by
   rcases Nat.lt_or_ge n ps.length with h9 | h9
   ·rw [gE h9] at hp;cases hp
   ·exact h9
  have hMp:=MemPage_none A ps.length c n hn32 hnp w ht;clear h h1 h2 h3 hl hk hpg
  rcases hcz with zn | ⟨rfl,hch⟩
  ·go_enter Tryz.func65,Tryz.ntmps65
   go_wp2_with (first
    | (refine wpList_look_none rfl (.tmp 15) (.tmp 16) rfl rfl rfl HM.out.1 HM.out.2 ?_)
    | (go_at_call 243;refine hMp.mono ?_))
   rintro e w2 ⟨v,rfl,hv,hb2⟩;have hcode:=code_any (B:=w.heap.size) (globBelow hg hb2) (powBelow ht hb2) hv.w (by omega) (by decide)
   go_wp2_with (first
    | (go_at_call 41;refine hcode.mono ?_))
   rintro e w3 ⟨rfl,hf3⟩;go_wp2;go_ret2;exact ⟨rfl,hb2.trans (hf3.below hb2.size (fun k hk=>hk))⟩
  ·rw [hch] at f7;go_enter Tryz.func65,Tryz.ntmps65
   go_wp2_with (first
    | (refine wpList_look_none rfl (.tmp 15) (.tmp 16) rfl rfl rfl HM.out.1 HM.out.2 ?_)
    | (go_at_call 243;refine hMp.mono ?_))
   rintro e w2 ⟨v,rfl,hv,hb2⟩;have hcode:=code_any (B:=w.heap.size) (globBelow hg hb2) (powBelow ht hb2) hv.w (by omega) (by decide)
   go_wp2_with (first
    | (go_at_call 41;refine hcode.mono ?_))
   rintro e w3 ⟨rfl,hf3⟩;go_wp2;go_ret2;exact ⟨rfl,hb2.trans (hf3.below hb2.size (fun k hk=>hk))⟩
theorem bytes_all {X:Nat->Prop} {w:World} {T M:Nat} {t:PT} (h:TX X w T M t) (ok:t.OK) (n:Nat) (hn32:n<4294967296) (hg:GlobAt w) (ht:PowAt w) :
 Calls Tryz.prog 65 #[.pointer (some ⟨T,0,none⟩),.int .u32 (n:Nat)] w fun e w'=>BytesR (pageT t n) w.heap.size e w'/\Below w.heap.size w w':=by
 by_cases hn:t.pages<=n
 ·refine (bytes_none h n hn).mono ?_;rintro e w' ⟨rfl,rfl⟩;unfold pageT;rw [if_pos hn];exact ⟨rfl,bR _ _⟩
 ·cases hl:lookO n t.over with
  | some b =>
   refine (bytes_over h n b (by omega) hl).mono ?_;rintro e w' ⟨h256,A,c,rfl,ho,hb⟩;unfold pageT;rw [if_neg hn,hl];refine ⟨⟨A,c,by rw [h256],?_⟩,hb⟩;unfold OwnB;rw [h256];exact ho
  | none =>
   by_cases hz:n=0/\t.changed=true
   ·obtain ⟨rfl,hc⟩:=hz;refine (bytes_head h ok hc hl).mono ?_;rintro e w' ⟨A,c,rfl,ho,hb⟩;have hl256:(putP t.head).length=256:=(bl_len _).symm.trans ho.1;unfold pageT;rw [if_neg hn,hl];simp only [hc,and_self,if_true];refine ⟨⟨A,c,by rw [hl256],?_⟩,hb⟩;unfold OwnB;rw [hl256];exact ho
   ·exact bytes_src h n hn32 (by omega) hl hz hg ht
theorem kind_seal {lsn:Nat} {k:Nat} {body:List UInt8} (hk:1<=k/\k<=5) (hl:lsn<18446744073709551616) (hb:body.length=243):kindB (sealB k lsn body)=k:=(open_seal hk hl hb).2.1
theorem ReadC_free {lsn nx:Nat} (hl:lsn<18446744073709551616):openE (putP (freePg lsn nx))=0->ReadC (kindB (putP (freePg lsn nx))) (lsnB (putP (freePg lsn nx))) (restB (putP (freePg lsn nx))):=by
 intro _
 have hk:kindB (putP (freePg lsn nx))=5:=by
  have hb:=body_len (freePg_put lsn nx);exact kind_seal (k:=5) (by omega) hl hb
 rw [hk];exact ReadC_5 _ _
theorem ErrV.fr {B:Nat} {w w':World} {op nm:ByteArray} {k:Int} {v:Value} {X:Nat->Prop} (h:ErrV B w op nm k v) (hf:Fr X w w') (hX:∀ r,B<=r->¬ X r):ErrV B w' op nm k v:=by
 rcases h with h | ⟨h1,r,e,hB,hr⟩
 ·exact .inl h
 ·exact .inr ⟨h1,r,e,hB,(hf.block r (aS.1 hr).1 (hX r hB)).trans hr⟩
def codeR {α:Type} (r:Except Int α):Int:=match r with
 | .error k=>k
 | .ok _=>0
def zeroN:PN:=⟨0,0,[],0,[],0,0,0,0⟩
def nodeOf (r:Except Int PN):PN:=match r with
 | .error _=>zeroN
 | .ok x=>x
def zeroX:NX:=⟨0,0,none,0,[],0,none,0,[],0,0,0,0⟩
def NodeR (r:Except Int PN) (B:Nat) (e:Ending) (w':World):Prop:=∃ y:NX,y.n=nodeOf r/\e=.returned (.tuple #[y.val,.int .i64 (codeR r)])/\NodeAt w' w'.heap.size y/\NodeLo B y
theorem zeroX_at (w:World) (B:Nat):NodeAt w B zeroX:=flat_at rfl rfl
theorem zeroX_lo (B:Nat):NodeLo B zeroX:=⟨fun ad h=>(by cases h),fun ad h=>(by cases h),fun y hy=>(by cases hy),fun y hy=>(by cases hy)⟩
theorem getR_R {b:List UInt8} {B:Nat} {e:Ending} {w w':World} (h:GetR b B e w w'):NodeR (getP b) B e w'/\Below B w w':=by
 unfold GetR at h;refine ⟨?_,h.2⟩;have h1:=h.1;unfold NodeR
 cases hg:getP b with
 | error k =>
  rw [hg] at h1;exact ⟨zeroX,rfl,h1,zeroX_at _ _,zeroX_lo _⟩
 | ok n =>
  rw [hg] at h1;obtain ⟨x,h2,h3,h4,h5⟩:=h1;exact ⟨x,h2,h3,h4,h5⟩
theorem pageT_err {t:PT} {n:Nat} {k:Int} (h:pageT t n=.error k):k=7:=by
 unfold pageT at h
 split at h
 ·cases h;rfl
 ·split at h
  ·cases h
  ·split at h
   ·cases h
   ·split at h
    ·cases h
    ·cases h;rfl
theorem own_capB {w:World} {B:Nat} {A:Option Addr} {c:Nat} {b:List UInt8} (h:OwnB w B A c b):b.length<=c:=by
 rcases Nat.eq_zero_or_pos b.length with h0 | h0
 ·omega
 ·obtain ⟨g',c',e',hc',_⟩:=own_big h h0;simp only [Value.slice.injEq] at e';omega
theorem node_all {X:Nat->Prop} {w:World} {T M:Nat} {t:PT} (h:TX X w T M t) (ok:t.OK) (n:Nat) (hn32:n<4294967296) (hg:GlobAt w) (ht:PowAt w) :
 Calls Tryz.prog 84 #[.pointer (some ⟨T,0,none⟩),.int .u32 (n:Nat)] w fun e w'=>NodeR (nodeT t n) w.heap.size e w'/\Below w.heap.size w w':=by
 obtain ⟨w1,hw1⟩:∃ w1,w1=w.alloc (.cells zeroCs 52):=⟨_,rfl⟩
 have hb1:Below w.heap.size w w1:=by rw [hw1];exact (bR _ w).alloc (nR _) _
 have hN1:Blk w1 w.heap.size 52 zeroCs:=by rw [hw1];exact Blk.new _ _ _
 have hB:=bytes_all (h.keep (KeepX.of_below hb1)) ok n hn32 (globBelow hg hb1) (powBelow ht hb1);unfold zeroCs at hw1 hN1;have HW1:=lH hw1;have HN1:=lH hN1;clear hw1 hN1 h hg;have hlt:w.heap.size<w1.heap.size:=HN1.out.lt;unfold nodeT
 cases hp:pageT t n with
 | error k =>
  have hk:=pageT_err hp;subst hk;rw [hp] at hB;unfold BytesR at hB;go_enter Tryz.func84,Tryz.ntmps84
  go_wp2_with (first
   | (rw [<-HW1.out];go_at_call 65;refine hB.mono ?_;rintro e w2 ⟨rfl,hb2⟩;have hN3:=HN1.out.below hb2 HN1.out.lt)
   | (refine wpList_store_row rfl 52 _ _ rfl w.heap.size _ rfl rfl 52 _ hN3 (by kernel_rfl) rfl (by simp [Value.oneCell']) ?_))
  refine bodyPost_ret (rT rfl _ _ w.heap.size 52 _ (0,0) _ rfl (setRow_heap _ _ _ _ _ _ hN3) Tryz.underlying52 rfl (by kernel_rfl)) rfl ?_;have hb4:=hb1.trans (hb2.mono hb1.size);exact ⟨⟨zeroX,rfl,rfl,zeroX_at _ _,zeroX_lo _⟩,hb4.trans ((fS _ w.heap.size _).below (B:=w.heap.size) hb4.size (fun k hk=>by omega))⟩
 | ok b =>
  rw [hp] at hB;unfold BytesR at hB;simp only;have HG:Hid (∀ (W:World) (A:Option Addr) (c:Nat),OwnB W w1.heap.size A c b->_):=lH fun W A c ho=>NGet_any (B:=W.heap.size) A c b W (nR _) ho.rd (own_capB ho);go_enter Tryz.func84,Tryz.ntmps84
  go_wp2_with (first
   | (go_at_call 69;refine (HG.out _ _ _ ho).mono ?_)
   | (rw [<-HW1.out];go_at_call 65;refine hB.mono ?_;rintro e w2 ⟨⟨A,c,rfl,ho⟩,hb2⟩))
  rintro e w3 hR;obtain ⟨⟨y,hy,rfl,hya,hylo⟩,hb3⟩:=getR_R hR;have hb23:Below w1.heap.size w1 w3:=hb2.trans (hb3.mono hb2.size);have hN3:=HN1.out.below hb23 HN1.out.lt;unfold NX.val nodeV
  go_wp2_with (refine wpList_store_row rfl 52 _ _ rfl w.heap.size _ rfl rfl 52 _ hN3 (by kernel_rfl) rfl (by simp [Value.oneCell']) ?_)
  refine bodyPost_ret (rT rfl _ _ w.heap.size 52 _ (0,0) _ rfl (setRow_heap _ _ _ _ _ _ hN3) Tryz.underlying52 rfl (by kernel_rfl)) rfl ?_;have hb4:=hb1.trans (hb23.mono hb1.size);refine ⟨⟨y,hy,rfl,?_,hylo.mono (nT hb1.size hb2.size)⟩,hb4.trans ((fS _ w.heap.size _).below (B:=w.heap.size) hb4.size (fun k hk=>by omega))⟩;rw [size_setRow];exact hya.fr (fS _ _ _) (nR _) hylo (fun k hk=>by have:=hb2.size;omega)
theorem Node_all {X:Nat->Prop} {w:World} {T M:Nat} {t:PT} (h:TX X w T M t) (ok:t.OK) (n:Nat) (hn32:n<4294967296) (hg:GlobAt w) (htab:PowAt w) :
 Calls Tryz.prog 62 #[.pointer (some ⟨T,0,none⟩),.int .u32 (n:Nat)] w fun e w'=>∃ (y:NX) (v:Value),y.n=nodeOf (nodeT t n)/\e=.returned (.tuple #[y.val,v])/\ErrV w.heap.size w' sPage (digB n) (codeR (nodeT t n)) v/\NodeAt w' w'.heap.size y/\NodeLo w.heap.size y/\Below w.heap.size w w':=by
 obtain ⟨w1,hw1⟩:∃ w1,w1=w.alloc (.cells zeroCs 52):=⟨_,rfl⟩
 have hb1:Below w.heap.size w w1:=by rw [hw1];exact (bR _ w).alloc (nR _) _
 have hN1:Blk w1 w.heap.size 52 zeroCs:=by rw [hw1];exact Blk.new _ _ _
 have hN:=node_all (h.keep (KeepX.of_below hb1)) ok n hn32 (globBelow hg hb1) (powBelow htab hb1)
 obtain ⟨er,HER⟩:∃ k,Hid (codeR (nodeT t n)=k):=⟨_,lH rfl⟩
 unfold NodeR at hN;rw [HER.out] at hN ⊢;have hF:=fun op nm W=>fault_any op nm er W;have hD:=fun W hW=>digits_any n hn32 W hW;unfold zeroCs at hw1 hN1;have HW1:=lH hw1;have HN1:=lH hN1;clear hg h hw1 hN1;go_enter Tryz.func62,Tryz.ntmps62
 go_wp2_with (first
  | (rw [<-HW1.out];go_at_call 84;refine hN.mono ?_;rintro e w2 ⟨⟨y,hy,rfl,hya,hylo⟩,hb2⟩;have ht2:=powBelow htab (hb1.trans (hb2.mono hb1.size));obtain ⟨w3,hw3⟩:∃ w3,w3=w2.alloc (.cells y.cells 52):=⟨_,rfl⟩;have hb3:Below w2.heap.size w2 w3:=(by rw [hw3];exact (bR _ w2).alloc (nR _) _);have hN3:Blk w3 w2.heap.size 52 y.cells:=(by rw [hw3];exact Blk.new _ _ _);have ht3:=powBelow ht2 hb3;unfold NX.val nodeV;unfold NX.cells at hw3 hN3;have HW3:=lH hw3;clear hw3))
 have hN1w:Blk w3 w.heap.size 52 #[.int .i64 0,.int .u64 0,.slice none 0 0,.int .u32 0,.slice none 0 0,.int .u32 0,.int .u32 0,.int .u32 0,.int .u64 0]:=(HN1.out.below hb2 HN1.out.lt).below hb3 (lT HN1.out.lt hb2.size);rw [<-HW3.out];have H31:=lH hN1w;clear hN1w;refine regionE 5 (fun W=>Blk W w2.heap.size 52 #[.int .i64 y.kind,.int .u64 (y.lsn:Nat),.slice y.ca y.l.length y.cc,.int .u32 (y.next:Nat),.slice y.da y.data.length y.dc,.int .u32 (y.root:Nat),.int .u32 (y.pages:Nat),.int .u32 (y.free:Nat),.int .u64 (y.entries:Nat)]) (by kernel_rfl) (by kernel_rfl) (by kernel_rfl) (by kernel_rfl) (by kernel_rfl) (hN3) (fun hHeld hTl=>?_);refine takeE 0 (v:=.agg #[.int .i64 y.kind,.int .u64 (y.lsn:Nat),.slice y.ca y.l.length y.cc,.int .u32 (y.next:Nat),.slice y.da y.data.length y.dc,.int .u32 (y.root:Nat),.int .u32 (y.pages:Nat),.int .u32 (y.free:Nat),.int .u64 (y.entries:Nat)]) hTl rfl (by decide) (by kernel_rfl) (by kernel_rfl) (fun _ _ _ h=>h) hHeld (Or.inl ⟨by rfl,?_⟩) (fun hTl=>?_)
 ·intro W hSw;have hsw:Blk W w2.heap.size 52 #[.int .i64 y.kind,.int .u64 (y.lsn:Nat),.slice y.ca y.l.length y.cc,.int .u32 (y.next:Nat),.slice y.da y.data.length y.dc,.int .u32 (y.root:Nat),.int .u32 (y.pages:Nat),.int .u32 (y.free:Nat),.int .u64 (y.entries:Nat)]:=hSw;have c0:W.cell? ⟨w2.heap.size,0,none⟩=some (.int .i64 y.kind):=hsw.cell 0;have c1:W.cell? ⟨w2.heap.size,1,none⟩=some (.int .u64 (y.lsn:Nat)):=hsw.cell 1;have c2:W.cell? ⟨w2.heap.size,2,none⟩=some (.slice y.ca y.l.length y.cc):=hsw.cell 2;have c3:W.cell? ⟨w2.heap.size,3,none⟩=some (.int .u32 (y.next:Nat)):=hsw.cell 3;have c4:W.cell? ⟨w2.heap.size,4,none⟩=some (.slice y.da y.data.length y.dc):=hsw.cell 4;have c5:W.cell? ⟨w2.heap.size,5,none⟩=some (.int .u32 (y.root:Nat)):=hsw.cell 5;have c6:W.cell? ⟨w2.heap.size,6,none⟩=some (.int .u32 (y.pages:Nat)):=hsw.cell 6;have c7:W.cell? ⟨w2.heap.size,7,none⟩=some (.int .u32 (y.free:Nat)):=hsw.cell 7;have c8:W.cell? ⟨w2.heap.size,8,none⟩=some (.int .u64 (y.entries:Nat)):=hsw.cell 8;go_simp
 try simp only [pT]
 refine tkT 1 (v:=?_) hTl hHeld rfl ?_ (fun hTl=>?_);rotate_left
 ·intro w hSw;(try dsimp only at hSw);go_simp;all_goals with_reducible rfl
 try simp only [pT]
 refine tkT 3 (v:=?_) hTl hHeld rfl ?_ (fun hTl=>?_);rotate_left
 ·intro w hSw;(try dsimp only at hSw);go_simp;all_goals with_reducible rfl
 try simp only [pT]
 have hTl2:=hTl.step 2 (by kernel_rfl) (by decide);clear hTl;refine oneE 2 rfl (by kernel_rfl) (fun K hK=>?_);refine sC rfl 54 _ (by go_simp) (hD _ ht3) ?_
 rintro e w4 ⟨rfl,hb4⟩;refine ⟨_,rfl,?_⟩;have hN4:=Blk.below (show Blk w3.drew w2.heap.size 52 #[.int .i64 y.kind,.int .u64 (y.lsn:Nat),.slice y.ca y.l.length y.cc,.int .u32 (y.next:Nat),.slice y.da y.data.length y.dc,.int .u32 (y.root:Nat),.int .u32 (y.pages:Nat),.int .u32 (y.free:Nat),.int .u64 (y.entries:Nat)] from hN3) hb4 (show w2.heap.size<w3.heap.size by have:=hN3.lt;omega)
 refine hK.out _ _ (fun _=>hN4) ?_;clear hK K
 try simp only [pT]
 have hTl:=hTl2;clear hTl2;refine oneE 4 rfl (by kernel_rfl) (fun K hK=>?_);refine sC rfl 51 _ (by go_simp) (hF ⟨#[112,97,103,101]⟩ ⟨(Lib.decDigits n).toArray⟩ _) ?_
 rintro e w5 ⟨v,rfl,hv,hb5⟩;refine ⟨_,rfl,?_⟩;have hN5:=hN4.below hb5 hN4.lt;have hN15:=(Blk.below (show Blk w3.drew w.heap.size 52 #[.int .i64 0,.int .u64 0,.slice none 0 0,.int .u32 0,.slice none 0 0,.int .u32 0,.int .u32 0,.int .u32 0,.int .u64 0] from H31.out) hb4 (show w.heap.size<w3.heap.size from H31.out.lt)).below hb5 (lT H31.out.lt hb4.size)
 refine hK.out _ _ (fun _=>hN5) ?_;clear hK K
 try simp only [pT]
 refine oneE 5 rfl (by kernel_rfl) (fun K hK=>?_);refine step_storeRow rfl 52 (.tmp 4) (.tmp 14) rfl w.heap.size _ rfl rfl 52 _ hN15 (by kernel_rfl) rfl (by simp [Value.oneCell']) ?_
 skip
 refine hK.out _ _ (fun h=>absurd h (by decide)) ?_;clear hK K
 try simp only [pT]
 refine oneE 6 rfl (by kernel_rfl) (fun K hK=>?_);go_simp;refine hK.out _ _ (fun h=>absurd h (by decide)) ?_;clear hK K
 try simp only [pT]
 refine doneE (by kernel_rfl) ?_ _;go_wp2;refine bodyPost_ret (rT rfl _ _ w.heap.size 52 _ (0,0) _ rfl (setRow_heap _ _ _ _ _ _ hN15) Tryz.underlying52 rfl (by kernel_rfl)) rfl ?_;have hb45:Below w3.heap.size w3 w5:=(show Below w3.heap.size w3 w4 from ⟨hb4.os,hb4.tape,hb4.output,hb4.size,hb4.block⟩).trans (hb5.mono hb4.size);have hb25:=hb3.trans (hb45.mono hb3.size);have hb15:=hb1.trans ((hb2.trans (hb25.mono hb2.size)).mono hb1.size);have hlt:w.heap.size<w1.heap.size:=HN1.out.lt;refine ⟨y,v,hy,rfl,?_,?_,hylo.mono hb1.size,hb15.trans ((fS _ w.heap.size _).below (B:=w.heap.size) hb15.size (fun k hk=>by omega))⟩
 ·have hsz:w.heap.size+1<=w4.heap.size:=nT hlt (nT hb2.size (nT hb3.size (show w3.heap.size<=w4.heap.size from hb4.size)));exact (hv.fr (fS _ w.heap.size _) (fun r hr=>by omega)).lo (by omega)
 rw [size_setRow];exact ((hya.below hb25).mono hb25.size).fr (fS _ _ _) (nR _) hylo (fun k hk=>by omega)
theorem getP_err {b:List UInt8} {k:Int} (h:getP b=.error k):k=50\/k=51\/k=80:=by
 unfold getP at h
 split at h
 ·rename_i h0
  cases h
  unfold openE at h0 ⊢
  split
  ·exact .inl rfl
  ·split
   ·exact .inr (.inl rfl)
   ·split
    ·rename_i h1 h2 h3;rw [if_neg h1,if_neg h2,if_pos h3] at h0;exact absurd rfl h0
    ·exact .inl rfl
 ·split at h
  ·cases h;exact .inr (.inr rfl)
  ·split at h
   ·cases h
   ·cases h;exact .inr (.inr rfl)
theorem nodeT_err {t:PT} {n:Nat} {k:Int} (h:nodeT t n=.error k):k=7\/k=50\/k=51\/k=80:=by
 unfold nodeT at h
 cases hp:pageT t n with
 | error e =>
  rw [hp] at h;have:=pageT_err hp
  cases h
  exact .inl this
 | ok b =>
  rw [hp] at h;exact .inr (getP_err h)
def NumR (X:Nat->Prop) (w:World) (T M:Nat) (n:Nat) (k:Int) (t':PT) (e:Ending) (w':World):Prop:=e=.returned (.tuple #[.int .u32 (n:Nat),.int .i64 k])/\TX (moreX X w) w' T M t'/\Fr (TM T M) w w'
theorem reuse_err {X:Nat->Prop} {w:World} {T M:Nat} {t:PT} (h:TX X w T M t) (ok:t.OK) (hg:GlobAt w) (ht:PowAt w) {k:Int} (hk:nodeT t t.free=.error k) :
 Calls Tryz.prog 52 #[.pointer (some ⟨T,0,none⟩)] w fun e w'=>NumR X w T M 0 k t e w':=by
 have h0:=ok.head;have hN:=node_all h ok t.free (by omega) hg ht;have hk0:=nodeT_err hk;rw [hk] at hN;unfold NodeR codeR nodeOf at hN;simp only at hN;obtain ⟨O,ck,src,h⟩:=h;have f4:w.cell? ⟨T,4,none⟩=some (.int .u32 (t.free:Nat)):=h.blk.cell 4;have HX:=lH h
 have z0:(k==0)=false:=by simp;omega
 have z1:(k != 0)=true:=by simp;omega
 clear h hk hk0;go_enter Tryz.func52,Tryz.ntmps52
 go_wp2_with (go_at_call 84;refine hN.mono ?_)
 rintro e w3 ⟨⟨y,hy,rfl,_,_⟩,hb3⟩;unfold NX.val nodeV
 obtain ⟨W,hW⟩:∃ W,W=w3.alloc (.cells y.cells 52):=⟨_,rfl⟩
 have hbW:Below w.heap.size w W:=by rw [hW];exact hb3.alloc hb3.size _
 unfold NX.cells at hW;have HW:=lH hW;have hTW:=HX.out.keep (KeepX.of_below hbW);clear hW
 go_wp2_with fail
 rw [<-HW.out]
 go_quiet (fail)
 obtain ⟨V,hV⟩:∃ V,W.drewN nq=V:=⟨_,rfl⟩
 have hbV:Below w.heap.size w V:=by rw [<-hV];exact ⟨hbW.os,hbW.tape,hbW.output,hbW.size,hbW.block⟩
 have hTV:=HX.out.keep (KeepX.of_below hbV);rw [hV];clear hV hTW;have HTV:=lH hTV;clear hTV;go_wp2;go_ret2;exact ⟨rfl,⟨O,ck,src,HTV.out.mono fun k hk=>.inl hk⟩,Fr.of_below hbV⟩
theorem reuse_bad {X:Nat->Prop} {w:World} {T M:Nat} {t:PT} (h:TX X w T M t) (ok:t.OK) (hg:GlobAt w) (ht:PowAt w) {x:PN} (hk:nodeT t t.free=.ok x) (hx:x.kind≠5\/t.pages<=x.next) :
 Calls Tryz.prog 52 #[.pointer (some ⟨T,0,none⟩)] w fun e w'=>NumR X w T M 0 80 t e w':=by
 have h0:=ok.head;have hN:=node_all h ok t.free (by omega) hg ht;rw [hk] at hN;unfold NodeR codeR nodeOf at hN;simp only at hN;obtain ⟨O,ck,src,h⟩:=h;have f4:w.cell? ⟨T,4,none⟩=some (.int .u32 (t.free:Nat)):=h.blk.cell 4;have HX:=lH (aI h hx);clear h hk hx;go_enter Tryz.func52,Tryz.ntmps52
 go_wp2_with (go_at_call 84;refine hN.mono ?_)
 rintro e w3 ⟨⟨y,hy,rfl,_,_⟩,hb3⟩
 have hyk:y.kind=x.kind:=by rw [<-hy];rfl
 have hyn:y.next=x.next:=by rw [<-hy];rfl
 unfold NX.val nodeV
 obtain ⟨W,hW⟩:∃ W,W=w3.alloc (.cells y.cells 52):=⟨_,rfl⟩
 have hbW:Below w.heap.size w W:=by rw [hW];exact hb3.alloc hb3.size _
 have hBW:Blk W w3.heap.size 52 y.cells:=by rw [hW];exact Blk.new _ _ _
 have g0:W.cell? ⟨w3.heap.size,0,none⟩=some (.int .i64 x.kind):=(hBW.cell 0).trans (by rw [<-hyk];rfl);have g3:W.cell? ⟨w3.heap.size,3,none⟩=some (.int .u32 (x.next:Nat)):=(hBW.cell 3).trans (by rw [<-hyn];rfl);unfold NX.cells at hW;have HW:=lH hW;clear hyk hyn hBW;have hTW:=HX.out.1.keep (KeepX.of_below hbW);have p3:W.cell? ⟨T,3,none⟩=some (.int .u32 (t.pages:Nat)):=hTW.blk.cell 3;clear hW;by_cases h5:x.kind=5
 ·have hle:t.pages<=x.next:=HX.out.2.resolve_left (fun h=>h h5)
  have z5:(x.kind != 5)=false:=by rw [h5];rfl
  have d1:decide ((t.pages:Int)<=(x.next:Int))=true:=dT (by omega);have d2:decide (t.pages<=x.next)=true:=dT hle
  go_wp2_with fail
  rw [<-HW.out]
  go_quiet (fail)
  obtain ⟨V,hV⟩:∃ V,W.drewN nq=V:=⟨_,rfl⟩
  have hbV:Below w.heap.size w V:=by rw [<-hV];exact ⟨hbW.os,hbW.tape,hbW.output,hbW.size,hbW.block⟩
  have hTV:=HX.out.1.keep (KeepX.of_below hbV);rw [hV];clear hV hTW;have HTV:=lH hTV;clear hTV;go_wp2;go_ret2;exact ⟨rfl,⟨O,ck,src,HTV.out.mono fun k hk=>.inl hk⟩,Fr.of_below hbV⟩
 ·have z5:(x.kind != 5)=true:=by simpa using h5
  go_wp2_with fail
  rw [<-HW.out]
  go_quiet (fail)
  obtain ⟨V,hV⟩:∃ V,W.drewN nq=V:=⟨_,rfl⟩
  have hbV:Below w.heap.size w V:=by rw [<-hV];exact ⟨hbW.os,hbW.tape,hbW.output,hbW.size,hbW.block⟩
  have hTV:=HX.out.1.keep (KeepX.of_below hbV);rw [hV];clear hV hTW;have HTV:=lH hTV;clear hTV;go_wp2;go_ret2;exact ⟨rfl,⟨O,ck,src,HTV.out.mono fun k hk=>.inl hk⟩,Fr.of_below hbV⟩
theorem reuse_good {X:Nat->Prop} {w:World} {T M:Nat} {t:PT} (h:TX X w T M t) (ok:t.OK) (hg:GlobAt w) (ht:PowAt w) {x:PN} (hk:nodeT t t.free=.ok x) (h5:x.kind=5) (hx:x.next<t.pages) :
 Calls Tryz.prog 52 #[.pointer (some ⟨T,0,none⟩)] w fun e w'=>NumR X w T M t.free 0 {t with free:=x.next,changed:=true} e w':=by
 have h0:=ok.head;have hN:=node_all h ok t.free (by omega) hg ht;rw [hk] at hN;unfold NodeR codeR nodeOf at hN;simp only at hN;obtain ⟨O,ck,src,h⟩:=h;have f4:w.cell? ⟨T,4,none⟩=some (.int .u32 (t.free:Nat)):=h.blk.cell 4;have HX:=lH (aI h hx);clear h hk hx;go_enter Tryz.func52,Tryz.ntmps52
 go_wp2_with (go_at_call 84;refine hN.mono ?_)
 rintro e w3 ⟨⟨y,hy,rfl,_,_⟩,hb3⟩
 have hyk:y.kind=5:=by rw [<-h5,<-hy];rfl
 have hyn:y.next=x.next:=by rw [<-hy];rfl
 unfold NX.val nodeV
 obtain ⟨W,hW⟩:∃ W,W=w3.alloc (.cells y.cells 52):=⟨_,rfl⟩
 have hbW:Below w.heap.size w W:=by rw [hW];exact hb3.alloc hb3.size _
 have hBW:Blk W w3.heap.size 52 y.cells:=by rw [hW];exact Blk.new _ _ _
 have g0:W.cell? ⟨w3.heap.size,0,none⟩=some (.int .i64 5):=(hBW.cell 0).trans (by rw [<-hyk];rfl);have g3:W.cell? ⟨w3.heap.size,3,none⟩=some (.int .u32 (x.next:Nat)):=(hBW.cell 3).trans (by rw [<-hyn];rfl);have hTW:=HX.out.1.keep (KeepX.of_below hbW);have p3:W.cell? ⟨T,3,none⟩=some (.int .u32 (t.pages:Nat)):=hTW.blk.cell 3;unfold NX.cells at hW;have HW:=lH hW;have d1:decide ((t.pages:Int)<=(x.next:Int))=false:=dF (by have:=HX.out.2;omega);have d2:decide (t.pages<=x.next)=false:=dF (by have:=HX.out.2;omega);have z1:((5:Int) != 5)=false:=rfl;clear hW hBW hN hyk hyn
 go_wp2_with fail
 rw [<-HW.out]
 go_quiet (fail)
 obtain ⟨V,hV⟩:∃ V,W.drewN nq=V:=⟨_,rfl⟩
 have hbV:Below w.heap.size w V:=by rw [<-hV];exact ⟨hbW.os,hbW.tape,hbW.output,hbW.size,hbW.block⟩
 have hTV:=HX.out.1.keep (KeepX.of_below hbV)
 have g3':V.cell? ⟨w3.heap.size,3,none⟩=some (.int .u32 (x.next:Nat)):=by rw [<-hV];exact g3
 have q4:V.cell? ⟨T,4,none⟩=some (.int .u32 (t.free:Nat)):=hTV.blk.cell 4;have q4f:=hTV.blk.frozen 4;have q7:V.cell? ⟨T,7,none⟩=some (.bool t.changed):=hTV.blk.cell 7;have q7f:=hTV.blk.frozen 7;rw [hV];clear hV g0 g3 p3 hTW;have HTV:=lH hTV;clear hTV;go_wp2;go_ret2;have h1:=HTV.out.set_ 4 (.int .u32 (x.next:Nat)) (t':={t with free:=x.next}) rfl rfl rfl;have h2:=h1.set_ 7 (.bool true) (t':={t with free:=x.next,changed:=true}) rfl rfl rfl;exact ⟨rfl,⟨O,ck,src,h2.mono fun k hk=>.inl hk⟩,(Fr.of_below (X:=TM T M) hbV).trans ((set_frX (.inl rfl)).trans (set_frX (.inl rfl)))⟩
end
section
open Go.RowKit
section
variable {F:Fence} {n:Nat} {P:Program}
end
end
section
open Go.RowKit
attribute [local go_sem] Oper.semAt_some
attribute [local go_sem] Oper.semAt_some
theorem free_step {t:PT} (ht:t.OK) {p:Nat} (hp:2<=p/\p<t.pages):(freeT t p).1=0/\(freeT t p).2.OK/\(freeT t p).2.lsn=t.lsn/\(freeT t p).2.pages=t.pages:=by
 have h0:=ht.head
 have hi:isPageT t p=0:=by unfold isPageT;rw [if_neg (by omega)]
 have hl:layE t (freeN t)=0:=freePg_put t.lsn t.free
 have e2:layT t p (freeN t)={t with over:=setO p (putP (freePg t.lsn t.free)) t.over,changed:=true}:=by
  unfold layT;rw [if_pos hl];rfl
 have e:freeT t p=(0,{t with over:=setO p (putP (freePg t.lsn t.free)) t.over,changed:=true,free:=p}):=by
  unfold freeT;rw [hi,if_neg (by simp),hl,if_neg (by simp),e2]
 have hok:=freeT_ok ht p;rw [e] at hok ⊢;exact ⟨rfl,hok,rfl,rfl⟩
attribute [local go_sem] Oper.semAt_some
end
section
open Go.RowKit
section
variable {P:Program} {ops:Array Oper} {Q:Exit->Act->World->Prop} {md:Region.Mode}
end
end
section
open Go.RowKit
attribute [local go_sem] Oper.semAt_some
theorem blk_at {w:World} {n:Nat} {t:TypeId} {cs:Array Value} (h:w.heap.size=n):Blk (w.alloc (.cells cs t)) n t cs:=by subst h;exact Blk.new _ _ _
end
section
open Go.RowKit
open Ev (ev AS AObj st1 c3 noCnv VRel LRel Hands hBase cxOK globT Fact)
namespace Lh
theorem is_run:isTr ((ev Km.C1 1000).f 35 [.iface 134 (.pointer (some ⟨0,0,none⟩)),.iface 80 (.int .i64 100)] (st1 (Km.flt1 100)))=true:=by kernel_rfl
end Lh
end
section
open Go.RowKit
open Ev (ev AS AObj st1 c3 noCnv VRel LRel Hands hBase cxOK globT Fact)
attribute [local go_sem] Oper.semAt_some
namespace Mc
end Mc
open Mc
def sAlloc:ByteArray:=⟨#[97,108,108,111,99]⟩
end
section
open Go.RowKit
def sPut:ByteArray:=⟨#[112,117,116]⟩
def sFree:ByteArray:=⟨#[102,114,101,101]⟩
theorem reuse_all {X:Nat->Prop} {w:World} {T M:Nat} {t:PT} (h:TX X w T M t) (ok:t.OK) (hg:GlobAt w) (ht:PowAt w) (h0:t.free≠0) :
 Calls Tryz.prog 52 #[.pointer (some ⟨T,0,none⟩)] w fun e w'=>NumR X w T M (allocT t).2.1 (allocT t).1 (allocT t).2.2 e w':=by
 unfold allocT;rw [if_pos h0]
 cases hk:nodeT t t.free with
 | error k=>exact reuse_err h ok hg ht hk
 | ok x =>
  simp only;by_cases hx:x.kind≠5\/t.pages<=x.next
  ·rw [if_pos hx];exact reuse_bad h ok hg ht hk hx
  ·rw [if_neg hx];exact reuse_good h ok hg ht hk (Decidable.not_not.1 (fun h=>hx (.inl h))) (by omega)
def AllocR (X:Nat->Prop) (w:World) (T M:Nat) (r:Int × Nat × PT) (e:Ending) (w':World):Prop:=∃ (v:Value) (B:Nat),e=.returned (.tuple #[.int .u32 (r.2.1:Nat),v])/\w.heap.size<=B/\ErrV B w' sAlloc ⟨#[]⟩ r.1 v/\TX (fun k=>moreX X w k/\k<B) w' T M r.2.2/\Fr (TM T M) w w'
theorem Alloc_all {X:Nat->Prop} {w:World} {T M:Nat} {t:PT} (h:TX X w T M t) (ok:t.OK) (hg:GlobAt w) (ht:PowAt w) :
 Calls Tryz.prog 17 #[.pointer (some ⟨T,0,none⟩)] w fun e w'=>AllocR X w T M (allocT t) e w':=by
 have hO:=h;obtain ⟨O,ck,src,hO⟩:=hO;have f4:w.cell? ⟨T,4,none⟩=some (.int .u32 (t.free:Nat)):=hO.blk.cell 4;have f3:w.cell? ⟨T,3,none⟩=some (.int .u32 (t.pages:Nat)):=hO.blk.cell 3;clear hO;by_cases h0:t.free≠0
 ·have hRe:=reuse_all h ok hg ht h0
  obtain ⟨r,HR⟩:∃ r,Hid (allocT t=r):=⟨_,lH rfl⟩
  rw [HR.out] at hRe ⊢
  have z1:((t.free:Int) != 0)=true:=by simpa using h0
  have hF:=fun W=>fault_any sAlloc ⟨#[]⟩ r.1 W;unfold sAlloc at hF;clear h;go_enter Tryz.func17,Tryz.ntmps17
  go_wp2_with (first
   | (go_at_call 52;refine hRe.mono ?_;rintro e w3 ⟨rfl,hT3,hf3⟩)
   | (go_at_call 51;refine (hF _).mono ?_;rintro e w4 ⟨v,rfl,hv,hb4⟩))
  go_ret2;exact ⟨v,w3.heap.size,rfl,hf3.size,hv,hT3.cut.keep (KeepX.of_below hb4),hf3.trans (Fr.of_below hb4)⟩
 ·have h0':t.free=0:=Decidable.not_not.1 h0;by_cases hp:512<=t.pages
  ·have ha:allocT t=(90,0,t):=by unfold allocT;rw [if_neg h0,if_pos hp]
   rw [ha];rw [h0'] at f4;have d1:decide ((512:Int)<=(t.pages:Int))=true:=dT (by omega);have d2:decide (512<=t.pages)=true:=dT hp;have hF:=fun W=>fault_any sAlloc ⟨#[]⟩ 90 W;unfold sAlloc at hF;have HH:=lH h;clear h;go_enter Tryz.func17,Tryz.ntmps17
   go_wp2_with (first
    | (go_at_call 51;refine (hF _).mono ?_;rintro e w4 ⟨v,rfl,hv,hb4⟩))
   go_ret2;exact ⟨v,w.heap.size,rfl,nR _,hv,(HH.out.cut.keep (KeepX.of_below hb4)).mono fun k hk=>⟨.inl hk.1,hk.2⟩,Fr.of_below hb4⟩
  ·have ha:allocT t=(0,t.pages,{t with pages:=t.pages+1,changed:=true}):=by unfold allocT;rw [if_neg h0,if_neg hp]
   rw [ha];refine (Alloc_fine h h0' (by omega)).mono ?_;rintro e w' ⟨rfl,hT,hf⟩;exact ⟨_,w'.heap.size,rfl,hf.size,.inl ⟨rfl,rfl⟩,hT.cut.mono fun k hk=>⟨.inl hk.1,hk.2⟩,hf⟩
def DoneR (X:Nat->Prop) (w:World) (T M:Nat) (op nm:ByteArray) (r:Int × PT) (e:Ending) (w':World):Prop:=∃ (v:Value) (B:Nat),e=.returned v/\w.heap.size<=B/\ErrV B w' op nm r.1 v/\TX (fun k=>moreX X w k/\k<B) w' T M r.2/\Fr (TM T M) w w'
theorem Put_all {X:Nat->Prop} {w:World} {T M:Nat} {t:PT} (h:TX X w T M t) (n:Nat) (hn:n<4294967296) (x:NX) (hx:NodeAt w w.heap.size x) (hf:(withL x t.lsn).n.Fit) (htab:PowAt w) (hX:¬ X 1) :
 Calls Tryz.prog 19 #[.pointer (some ⟨T,0,none⟩),.int .u32 (n:Nat),x.val] w fun e w'=>DoneR X w T M sPut (digB n) (putE' t n x.n,putT t n x.n) e w':=by
 obtain ⟨w1,hw1⟩:∃ w1,w1=w.alloc (.cells x.cells 52):=⟨_,rfl⟩
 have hb1:Below w.heap.size w w1:=by rw [hw1];exact (bR _ w).alloc (nR _) _
 have hN1:Blk w1 w.heap.size 52 x.cells:=by rw [hw1];exact Blk.new _ _ _
 have h1:=h.keep (KeepX.of_below hb1);have hI:=isPage_any h1 n;have hTM:=h.no hX;have hLy:=lay_fine h1 n x ((hx.below hb1).mono hb1.size) hf;have hD:=fun W hW=>digits_any n hn W hW;have ht1:=powBelow htab hb1;by_cases hi:isPageT t n=0
 ·have hpt:(putE' t n x.n,putT t n x.n)=(layE t x.n,layT t n x.n):=by unfold putE' putT;rw [hi];rfl
  rw [hpt];rw [hi] at hI
  obtain ⟨er,HER⟩:∃ k,Hid (layE t x.n=k):=⟨_,lH rfl⟩
  rw [HER.out] at hLy ⊢;have hF:=fun nm W=>fault_any sPut nm er W;unfold sPut at hF;unfold NX.val nodeV NX.cells at *;have HW1:=lH hw1;have HN1:=lH hN1;have HLY:=lH hLy;clear hw1 hN1 h h1 hLy hx hf hpt;go_enter Tryz.func19,Tryz.ntmps19
  go_wp2_with (first
   | (rw [<-HW1.out];go_at_call 53;refine hI.mono ?_;rintro e w2 ⟨rfl,h2⟩;have h2:=h2.symm;subst h2)
   | (refine wpList_load_row rfl 52 (.tmp 5) rfl w.heap.size rfl _ _ _ _ HN1.out Tryz.underlying52 rfl (by kernel_rfl) ?_)
   | (go_at_call 43;refine HLY.out.mono ?_;rintro e w3 ⟨rfl,hT3,hf3⟩;have ht3:=powFr ht1 hf3 hTM)
   | (go_at_call 54;refine (hD _ ht3).mono ?_;rintro e w4 ⟨rfl,hb4⟩)
   | (go_at_call 51;refine (hF _ _).mono ?_;rintro e w5 ⟨v,rfl,hv,hb5⟩))
  go_ret;refine ⟨v,w4.heap.size,rfl,nT hb1.size (nT hf3.size hb4.size),hv,?_,?_⟩
  ·exact ((hT3.keep (KeepX.of_below hb4)).cut.keep (KeepX.of_below hb5)).mono fun k hk=>⟨hk.1.imp id fun h=>nT hb1.size h,hk.2⟩
  ·exact ((Fr.of_below (X:=TM T M) hb1).trans hf3).trans ((Fr.of_below hb4).trans (Fr.of_below hb5))
 ·have hi2:isPageT t n=2:=by
   unfold isPageT at hi ⊢
   split
   ·rfl
   ·rename_i h9;rw [if_neg h9] at hi;exact absurd rfl hi
  have hpt:(putE' t n x.n,putT t n x.n)=(2,t):=by unfold putE' putT;rw [if_pos hi,if_pos hi]
  rw [hpt];rw [hi2] at hI;have hF:=fun nm W=>fault_any sPut nm 2 W;unfold sPut at hF;unfold NX.val nodeV NX.cells at *;have HW1:=lH hw1;have HH:=lH h1;clear hw1 hN1 h h1 hLy hx hf hpt;go_enter Tryz.func19,Tryz.ntmps19
  go_wp2_with (first
   | (rw [<-HW1.out];go_at_call 53;refine hI.mono ?_;rintro e w2 ⟨rfl,h2⟩;have h2:=h2.symm;subst h2)
   | (go_at_call 54;refine (hD _ ht1).mono ?_;rintro e w4 ⟨rfl,hb4⟩)
   | (go_at_call 51;refine (hF _ _).mono ?_;rintro e w5 ⟨v,rfl,hv,hb5⟩))
  go_ret;have hb14:=hb1.trans (hb4.mono hb1.size);have hb15:=hb14.trans (hb5.mono hb14.size);exact ⟨v,w4.heap.size,rfl,hb14.size,hv,((HH.out.keep (KeepX.of_below hb4)).cut.keep (KeepX.of_below hb5)).mono fun k hk=>⟨.inl hk.1,hk.2⟩,Fr.of_below hb15⟩
def sRoot:ByteArray:=⟨#[114,111,111,116]⟩
def sCount:ByteArray:=⟨#[99,111,117,110,116]⟩
theorem isPageT_2 {t:PT} {n:Nat} (h:isPageT t n≠0):isPageT t n=2:=by
 unfold isPageT at h ⊢
 split
 ·rfl
 ·rename_i h9;rw [if_neg h9] at h;exact absurd rfl h
theorem Free_all {X:Nat->Prop} {w:World} {T M:Nat} {t:PT} (h:TX X w T M t) (ok:t.OK) (n:Nat) (hn:n<4294967296) (htab:PowAt w) (hX:¬ X 1) :
 Calls Tryz.prog 20 #[.pointer (some ⟨T,0,none⟩),.int .u32 (n:Nat)] w fun e w'=>DoneR X w T M sFree (digB n) (freeT t n) e w':=by
 by_cases hi:isPageT t n=0
 ·have e0:(freeT t n).1=0:=by
   unfold freeT;rw [hi,if_neg (by simp),if_neg (by rw [show layE t (freeN t)=0 from freePg_put t.lsn t.free];simp)]
  refine (Free_fine h ok n hn hi htab hX).mono ?_;rintro e w' ⟨rfl,hT,hf⟩;exact ⟨_,w'.heap.size,rfl,hf.size,.inl ⟨e0,rfl⟩,hT.cut,hf⟩
 ·have ef:freeT t n=(2,t):=by unfold freeT;rw [if_pos hi]
  have hI:=isPage_any h n;rw [isPageT_2 hi] at hI;rw [ef];have hD:=digits_any n hn w htab;have hF:=fun nm W=>fault_any sFree nm 2 W;unfold sFree at hF;have HH:=lH h;clear h;go_enter Tryz.func20,Tryz.ntmps20
  go_wp2_with (first
   | (go_at_call 53;refine hI.mono ?_;rintro e w2 ⟨rfl,h2⟩;have h2:=h2.symm;subst h2)
   | (go_at_call 54;refine hD.mono ?_;rintro e w4 ⟨rfl,hb4⟩)
   | (go_at_call 51;refine (hF _ _).mono ?_;rintro e w5 ⟨v,rfl,hv,hb5⟩))
  go_ret;exact ⟨v,w4.heap.size,rfl,hb4.size,hv,((HH.out.keep (KeepX.of_below hb4)).cut.keep (KeepX.of_below hb5)).mono fun k hk=>⟨.inl hk.1,hk.2⟩,(Fr.of_below hb4).trans (Fr.of_below hb5)⟩
theorem SetRoot_all {X:Nat->Prop} {w:World} {T M:Nat} {t:PT} (h:TX X w T M t) (n:Nat) (hn:n<4294967296) (htab:PowAt w) (hX:¬ X 1) :
 Calls Tryz.prog 58 #[.pointer (some ⟨T,0,none⟩),.int .u32 (n:Nat)] w fun e w'=>DoneR X w T M sRoot (digB n) (rootT t n) e w':=by
 have hI:=isPage_any h n;have hTM:=h.no hX;by_cases hi:isPageT t n=0
 ·have ef:rootT t n=(0,{t with root:=n,changed:=true}):=by unfold rootT;rw [hi,if_neg (by simp)]
  rw [ef];rw [hi] at hI;obtain ⟨O,ck,src,h⟩:=h;have f2:w.cell? ⟨T,2,none⟩=some (.int .u32 (t.root:Nat)):=h.blk.cell 2;have f2f:=h.blk.frozen 2;have f7:w.cell? ⟨T,7,none⟩=some (.bool t.changed):=h.blk.cell 7;have f7f:=h.blk.frozen 7;have h2:=(h.set_ 2 (.int .u32 (n:Nat)) (t':={t with root:=n}) rfl rfl rfl).set_ 7 (.bool true) (t':={t with root:=n,changed:=true}) rfl rfl rfl;have hfr:Fr (TM T M) w ((w.setCell ⟨T,2,none⟩ (.int .u32 (n:Nat))).setCell ⟨T,7,none⟩ (.bool true)):=(set_frX (.inl rfl)).trans (set_frX (.inl rfl));have ht2:=powFr htab hfr hTM;have hD:=digits_any n hn _ ht2;have hF:=fun nm W=>fault_any sRoot nm 0 W;unfold sRoot at hF;have H2:=lH h2;clear h h2;go_enter Tryz.func58,Tryz.ntmps58
  go_wp2_with (first
   | (go_at_call 53;refine hI.mono ?_;rintro e w2 ⟨rfl,h2⟩;have h2:=h2.symm;subst h2)
   | (go_at_call 54;refine hD.mono ?_;rintro e w4 ⟨rfl,hb4⟩)
   | (go_at_call 51;refine (hF _ _).mono ?_;rintro e w5 ⟨v,rfl,hv,hb5⟩))
  go_ret
  have hT:TX X _ T M _:=⟨O,ck,src,H2.out⟩
  exact ⟨v,w4.heap.size,rfl,nT hfr.size hb4.size,hv,((hT.keep (KeepX.of_below hb4)).cut.keep (KeepX.of_below hb5)).mono fun k hk=>⟨.inl hk.1,hk.2⟩,hfr.trans ((Fr.of_below hb4).trans (Fr.of_below hb5))⟩
 ·have ef:rootT t n=(2,t):=by unfold rootT;rw [if_pos hi]
  rw [isPageT_2 hi] at hI;rw [ef];have hD:=digits_any n hn w htab;have hF:=fun nm W=>fault_any sRoot nm 2 W;unfold sRoot at hF;have HH:=lH h;clear h;go_enter Tryz.func58,Tryz.ntmps58
  go_wp2_with (first
   | (go_at_call 53;refine hI.mono ?_;rintro e w2 ⟨rfl,h2⟩;have h2:=h2.symm;subst h2)
   | (go_at_call 54;refine hD.mono ?_;rintro e w4 ⟨rfl,hb4⟩)
   | (go_at_call 51;refine (hF _ _).mono ?_;rintro e w5 ⟨v,rfl,hv,hb5⟩))
  go_ret;exact ⟨v,w4.heap.size,rfl,hb4.size,hv,((HH.out.keep (KeepX.of_below hb4)).cut.keep (KeepX.of_below hb5)).mono fun k hk=>⟨.inl hk.1,hk.2⟩,(Fr.of_below hb4).trans (Fr.of_below hb5)⟩
theorem Page_all {X:Nat->Prop} {w:World} {T M:Nat} {t:PT} (h:TX X w T M t) (ok:t.OK) (n:Nat) (hn32:n<4294967296) (hg:GlobAt w) (htab:PowAt w) :
 Calls Tryz.prog 26 #[.pointer (some ⟨T,0,none⟩),.int .u32 (n:Nat)] w fun e w'=>∃ (A:Option Addr) (c:Nat) (v:Value) (b:List UInt8),e=.returned (.tuple #[.slice A b.length c,v])/\OwnB w' w.heap.size A c b/\ErrV w.heap.size w' sPage (digB n) (codeR (pageT t n)) v/\(∀ b',pageT t n=.ok b'->b=b')/\(∀ k,pageT t n=.error k->b=[])/\Below w.heap.size w w':=by
 have hB:=bytes_all h ok n hn32 hg htab;have hF:=fun nm W=>fault_any sPage nm (codeR (pageT t n)) W;unfold sPage at hF;unfold BytesR at hB;clear h hg
 cases hp:pageT t n with
 | error k =>
  rw [hp] at hB hF;simp only [codeR] at hF ⊢;go_enter Tryz.func26,Tryz.ntmps26
  go_wp2_with (first
   | (go_at_call 65;refine hB.mono ?_;rintro e w2 ⟨rfl,hb2⟩;have hD:=digits_any n hn32 w2 (powBelow htab hb2))
   | (go_at_call 54;refine hD.mono ?_;rintro e w3 ⟨rfl,hb3⟩)
   | (go_at_call 51;refine (hF _ _).mono ?_;rintro e w4 ⟨v,rfl,hv,hb4⟩))
  go_ret2;have hb23:=hb2.trans (hb3.mono hb2.size);exact ⟨none,0,v,[],rfl,OwnB.nil _ _ 0,hv.lo hb23.size,fun b' h=>(by cases h),fun k' _=>rfl,hb23.trans (hb4.mono hb23.size)⟩
 | ok b =>
  rw [hp] at hB hF;simp only [codeR] at hF ⊢;go_enter Tryz.func26,Tryz.ntmps26
  go_wp2_with (first
   | (go_at_call 65;refine hB.mono ?_;rintro e w2 ⟨⟨A,c,rfl,ho⟩,hb2⟩;have hD:=digits_any n hn32 w2 (powBelow htab hb2))
   | (go_at_call 54;refine hD.mono ?_;rintro e w3 ⟨rfl,hb3⟩)
   | (go_at_call 51;refine (hF _ _).mono ?_;rintro e w4 ⟨v,rfl,hv,hb4⟩))
  go_ret2;have hb23:=hb2.trans (hb3.mono hb2.size);exact ⟨A,c,v,b,rfl,(ho.below hb3).below hb4,hv.lo hb23.size,fun b' h=>(by cases h;rfl),fun k' h=>(by cases h),hb23.trans (hb4.mono hb23.size)⟩
theorem Count_bad {X:Nat->Prop} {w:World} {T M:Nat} {t:PT} (h:TX X w T M t) (ok:t.OK) (b:Int) (hb1:-9223372036854775808<=b) (hb2:b<=9223372036854775807) (hc:(countT t b).1≠0) :
 Calls Tryz.prog 60 #[.pointer (some ⟨T,0,none⟩),.int .i64 b] w fun e w'=>DoneR X w T M sCount ⟨#[]⟩ (2,t) e w':=by
 have he:=ok.entries
 have hcc:b < -2147483648\/2147483648<b\/(b<0/\(t.entries:Int) < -b)\/(0<b/\18446744073709551615-b<(t.entries:Int)):=by
  unfold countT at hc
  split at hc
  ·assumption
  ·exact absurd rfl hc
 have f5:w.cell? ⟨T,5,none⟩=some (.int .u64 (t.entries:Nat)):=by obtain ⟨O,ck,src,h⟩:=h;exact h.blk.cell 5
 have hF:=fun W=>fault_any sCount ⟨#[]⟩ 2 W;unfold sCount at hF;have HH:=lH h;clear h hc
 rcases hcc with h1 | h1 | ⟨h1,h2⟩ | ⟨h1,h2⟩
 ·have d1:decide (b < -2147483648)=true:=dT h1;clear he;go_enter Tryz.func60,Tryz.ntmps60
  go_wp2_with (first
   | (go_at_call 51;refine (hF _).mono ?_;rintro e w5 ⟨v,rfl,hv,hb5⟩))
  go_ret;exact ⟨v,w.heap.size,rfl,nR _,hv,(HH.out.cut.keep (KeepX.of_below hb5)).mono fun k hk=>⟨.inl hk.1,hk.2⟩,Fr.of_below hb5⟩
 ·have d1:decide (b < -2147483648)=false:=dF (by omega);have d2:decide (2147483648<b)=true:=dT h1;clear he;go_enter Tryz.func60,Tryz.ntmps60
  go_wp2_with (first
   | (go_at_call 51;refine (hF _).mono ?_;rintro e w5 ⟨v,rfl,hv,hb5⟩))
  go_ret;exact ⟨v,w.heap.size,rfl,nR _,hv,(HH.out.cut.keep (KeepX.of_below hb5)).mono fun k hk=>⟨.inl hk.1,hk.2⟩,Fr.of_below hb5⟩
 ·by_cases h9:b < -2147483648
  ·have d1:decide (b < -2147483648)=true:=dT h9;clear he;go_enter Tryz.func60,Tryz.ntmps60
   go_wp2_with (first
    | (go_at_call 51;refine (hF _).mono ?_;rintro e w5 ⟨v,rfl,hv,hb5⟩))
   go_ret;exact ⟨v,w.heap.size,rfl,nR _,hv,(HH.out.cut.keep (KeepX.of_below hb5)).mono fun k hk=>⟨.inl hk.1,hk.2⟩,Fr.of_below hb5⟩
  ·have d1:decide (b < -2147483648)=false:=dF h9;have d2:decide (2147483648<b)=false:=dF (by omega);have d3:decide (b<0)=true:=dT h1
   have w1:IntKind.i64.wrap (-b)=-b:=by rw [IntKind.wrap_i64];omega
   have w2:IntKind.u64.wrap (-b)=-b:=by rw [IntKind.wrap_u64];omega
   have d4:decide ((t.entries:Int) < -b)=true:=dT h2;clear he;go_enter Tryz.func60,Tryz.ntmps60
   go_wp2_with (first
    | (go_at_call 51;refine (hF _).mono ?_;rintro e w5 ⟨v,rfl,hv,hb5⟩))
   go_ret;exact ⟨v,w.heap.size,rfl,nR _,hv,(HH.out.cut.keep (KeepX.of_below hb5)).mono fun k hk=>⟨.inl hk.1,hk.2⟩,Fr.of_below hb5⟩
 ·by_cases h9:2147483648<b
  ·have d1:decide (b < -2147483648)=false:=dF (by omega);have d2:decide (2147483648<b)=true:=dT h9;clear he;go_enter Tryz.func60,Tryz.ntmps60
   go_wp2_with (first
    | (go_at_call 51;refine (hF _).mono ?_;rintro e w5 ⟨v,rfl,hv,hb5⟩))
   go_ret;exact ⟨v,w.heap.size,rfl,nR _,hv,(HH.out.cut.keep (KeepX.of_below hb5)).mono fun k hk=>⟨.inl hk.1,hk.2⟩,Fr.of_below hb5⟩
  ·have d1:decide (b < -2147483648)=false:=dF (by omega);have d2:decide (2147483648<b)=false:=dF h9;have d3:decide (b<0)=false:=dF (by omega);have d5:decide (0<b)=true:=dT h1
   have w2:IntKind.u64.wrap b=b:=by rw [IntKind.wrap_u64];omega
   have w3:IntKind.u64.wrap (18446744073709551615-b)=18446744073709551615-b:=by rw [IntKind.wrap_u64];omega
   have d4:decide (18446744073709551615-b<(t.entries:Int))=true:=dT h2;clear he;go_enter Tryz.func60,Tryz.ntmps60
   go_wp2_with (first
    | (go_at_call 51;refine (hF _).mono ?_;rintro e w5 ⟨v,rfl,hv,hb5⟩))
   go_ret;exact ⟨v,w.heap.size,rfl,nR _,hv,(HH.out.cut.keep (KeepX.of_below hb5)).mono fun k hk=>⟨.inl hk.1,hk.2⟩,Fr.of_below hb5⟩
theorem Count_good {X:Nat->Prop} {w:World} {T M:Nat} {t:PT} (h:TX X w T M t) (ok:t.OK) (b:Int) (hc:(countT t b).1=0) :
 Calls Tryz.prog 60 #[.pointer (some ⟨T,0,none⟩),.int .i64 b] w fun e w'=>DoneR X w T M sCount ⟨#[]⟩ (countT t b) e w':=by
 have he:=ok.entries
 have hcc:¬ (b < -2147483648\/2147483648<b\/(b<0/\(t.entries:Int) < -b)\/(0<b/\18446744073709551615-b<(t.entries:Int))):=by
  unfold countT at hc
  split at hc
  ·cases hc
  ·assumption
 have ec:countT t b=(0,{t with entries:=((t.entries:Int)+b).toNat,changed:=true}):=by unfold countT;rw [if_neg hcc]
 rw [ec]
 obtain ⟨en,HEN⟩:∃ k,Hid (((t.entries:Int)+b).toNat=k):=⟨_,lH rfl⟩
 rw [HEN.out]
 have hen:(t.entries:Int)+b=(en:Int):=by have:=HEN.out;omega
 obtain ⟨O,ck,src,h⟩:=h;have f5:w.cell? ⟨T,5,none⟩=some (.int .u64 (t.entries:Nat)):=h.blk.cell 5;have f5f:=h.blk.frozen 5;have f7:w.cell? ⟨T,7,none⟩=some (.bool t.changed):=h.blk.cell 7;have f7f:=h.blk.frozen 7;have h2:=(h.set_ 5 (.int .u64 (en:Nat)) (t':={t with entries:=en}) rfl rfl rfl).set_ 7 (.bool true) (t':={t with entries:=en,changed:=true}) rfl rfl rfl;have hfr:Fr (TM T M) w ((w.setCell ⟨T,5,none⟩ (.int .u64 (en:Nat))).setCell ⟨T,7,none⟩ (.bool true)):=(set_frX (.inl rfl)).trans (set_frX (.inl rfl));have hF:=fun W=>fault_any sCount ⟨#[]⟩ 0 W;unfold sCount at hF;have H2:=lH h2;have d1:decide (b < -2147483648)=false:=dF (by omega);have d2:decide (2147483648<b)=false:=dF (by omega)
 have hen2:en<18446744073709551616:=by omega
 clear h h2 hc ec
 rcases Int.lt_trichotomy b 0 with h1 | h1 | h1
 ·have d3:decide (b<0)=true:=dT h1
  have w1:IntKind.i64.wrap (-b)=-b:=by rw [IntKind.wrap_i64];omega
  have w2:IntKind.u64.wrap (-b)=-b:=by rw [IntKind.wrap_u64];omega
  have d4:decide ((t.entries:Int) < -b)=false:=dF (by omega);have d5:decide (0<b)=false:=dF (by omega)
  have w3:IntKind.u64.wrap b=b+18446744073709551616:=by rw [IntKind.wrap_u64];omega
  have w4:IntKind.u64.wrap ((t.entries:Int)+(b+18446744073709551616))=(en:Int):=by rw [IntKind.wrap_u64];omega
  clear he hcc hen;go_enter Tryz.func60,Tryz.ntmps60
  go_wp2_with (first
   | (go_at_call 51;refine (hF _).mono ?_;rintro e w5 ⟨v,rfl,hv,hb5⟩))
  go_ret
  have hT:TX X _ T M _:=⟨O,ck,src,H2.out⟩
  exact ⟨v,_,rfl,hfr.size,hv,(hT.cut.keep (KeepX.of_below hb5)).mono fun k hk=>⟨.inl hk.1,hk.2⟩,hfr.trans (Fr.of_below hb5)⟩
 ·subst h1
  have w4:IntKind.u64.wrap (t.entries:Int)=(en:Int):=by rw [IntKind.wrap_u64];omega
  clear he hcc hen;go_enter Tryz.func60,Tryz.ntmps60
  go_wp2_with (first
   | (go_at_call 51;refine (hF _).mono ?_;rintro e w5 ⟨v,rfl,hv,hb5⟩))
  go_ret
  have hT:TX X _ T M _:=⟨O,ck,src,H2.out⟩
  exact ⟨v,_,rfl,hfr.size,hv,(hT.cut.keep (KeepX.of_below hb5)).mono fun k hk=>⟨.inl hk.1,hk.2⟩,hfr.trans (Fr.of_below hb5)⟩
 ·have d3:decide (b<0)=false:=dF (by omega);have d5:decide (0<b)=true:=dT h1
  have w2:IntKind.u64.wrap b=b:=by rw [IntKind.wrap_u64];omega
  have w3:IntKind.u64.wrap (18446744073709551615-b)=18446744073709551615-b:=by rw [IntKind.wrap_u64];omega
  have d4:decide (18446744073709551615-b<(t.entries:Int))=false:=dF (by omega)
  have w4:IntKind.u64.wrap ((t.entries:Int)+b)=(en:Int):=by rw [IntKind.wrap_u64];omega
  clear he hcc hen;go_enter Tryz.func60,Tryz.ntmps60
  go_wp2_with (first
   | (go_at_call 51;refine (hF _).mono ?_;rintro e w5 ⟨v,rfl,hv,hb5⟩))
  go_ret
  have hT:TX X _ T M _:=⟨O,ck,src,H2.out⟩
  exact ⟨v,_,rfl,hfr.size,hv,(hT.cut.keep (KeepX.of_below hb5)).mono fun k hk=>⟨.inl hk.1,hk.2⟩,hfr.trans (Fr.of_below hb5)⟩
theorem Count_all {X:Nat->Prop} {w:World} {T M:Nat} {t:PT} (h:TX X w T M t) (ok:t.OK) (b:Int) (hb1:-9223372036854775808<=b) (hb2:b<=9223372036854775807) :
 Calls Tryz.prog 60 #[.pointer (some ⟨T,0,none⟩),.int .i64 b] w fun e w'=>DoneR X w T M sCount ⟨#[]⟩ (countT t b) e w':=by
 by_cases hc:(countT t b).1=0
 ·exact Count_good h ok b hc
 ·have:countT t b=(2,t):=by
   unfold countT at hc ⊢
   split
   ·rfl
   ·rename_i h9;rw [if_neg h9] at hc;exact absurd rfl hc
  rw [this];exact Count_bad h ok b hb1 hb2 hc
attribute [local go_sem] Oper.semAt_some
theorem ErrW.form {B:Nat} {w:World} {op nm:ByteArray} {k:Int} {v:Value} (h:ErrW B w op nm k v) (hk:k≠0):∃ p,v=.iface 134 (.pointer (some p)):=by
 rcases h with ⟨h,_⟩ | ⟨_,r,d,c,fz,e,_⟩
 ·exact absurd h hk
 ·exact ⟨_,e⟩
end
end Go.Proofs.YtenfkghoolegfaaGreatDoor
namespace Go.Proofs.YtenfkghoolegfaaGreatDoor
open Go.RowKit
def sBegin:ByteArray:=⟨#[98,101,103,105,110]⟩
def BeginR (Y:Nat->Prop) (w:World) (r:Except Int PT) (e:Ending) (w':World):Prop:=match r with
 | .error k=>∃ v,e=.returned (.tuple #[.pointer none,v])/\ErrV w.heap.size w' sBegin ⟨#[]⟩ k v
 | .ok t=>∃ T M,e=.returned (.tuple #[.pointer (some ⟨T,0,none⟩),.nilIface])/\TX (moreX Y w) w' T M t/\w.heap.size<=T/\w.heap.size<=M
theorem Begin_none {Y:Nat->Prop} {v:Value} {src:List (List UInt8)} (lsn:Nat) (w:World) (hs:SrcAt Y w v src) (hn:src=[]) (hg:GlobAt w) (ht:PowAt w) :
 Calls Tryz.prog 25 #[v,.int .u64 (lsn:Nat)] w fun e w'=>(∃ v,e=.returned (.tuple #[.pointer none,v])/\ErrV w.heap.size w' sBegin ⟨#[]⟩ 7 v)/\Below w.heap.size w w':=by
 have hme:=fun v W=>page_meth v W;have h1lt:=pow_lt ht;obtain ⟨A,c,ps,rfl,rfl,h1,h0,h2,h3⟩:=hs
 have hps:ps=[]:=by simpa using hn
 subst hps;have hMp:=MemPage_none A 0 c 0 (by decide) (nR _) w ht;have hF:=fun W=>fault_any sBegin ⟨#[]⟩ 7 W;unfold sBegin at hF;simp only [List.length_nil];simp only [Int.natCast_zero] at hMp;go_enter Tryz.func25,Tryz.ntmps25
 go_wp2_with (first
  | (go_at_call 243;refine hMp.mono ?_))
 rintro e w2 ⟨v,rfl,hv,hb2⟩;obtain ⟨pe,rfl⟩:=hv.w.form (by decide);have hcode:=code_any (B:=w.heap.size) (globBelow hg hb2) (powBelow ht hb2) hv.w (by omega) (by decide)
 go_wp2_with (first
  | (go_at_call 41;refine hcode.mono ?_;rintro e w3 ⟨rfl,hf3⟩)
  | (go_at_call 51;refine (hF _).mono ?_;rintro e w5 ⟨v,rfl,hv5,hb5⟩))
 go_ret2;have hb3:Below w.heap.size w w3:=hb2.trans (hf3.below hb2.size (fun k hk=>hk));exact ⟨⟨v,rfl,hv5.lo hb3.size⟩,hb3.trans (hb5.mono hb3.size)⟩
theorem Begin_err {Y:Nat->Prop} {v:Value} {src:List (List UInt8)} (lsn:Nat) (w:World) (hs:SrcAt Y w v src) {b:List UInt8} (hb:src[0]?=some b) {k:Int} (hk:k≠0) (hge:getP b=.error k\/(k=80/\∃ n,getP b=.ok n/\n.kind≠1)) (hg:GlobAt w) (ht:PowAt w) :
 Calls Tryz.prog 25 #[v,.int .u64 (lsn:Nat)] w fun e w'=>(∃ v,e=.returned (.tuple #[.pointer none,v])/\ErrV w.heap.size w' sBegin ⟨#[]⟩ k v)/\Below w.heap.size w w':=by
 have hme:=fun v W=>page_meth v W;have h1lt:=pow_lt ht;obtain ⟨A,c,ps,rfl,rfl,h1,h0,h2,h3⟩:=hs;rw [List.getElem?_map] at hb
 cases hp:ps[0]? with
 | none=>rw [hp] at hb;cases hb
 | some p =>
  rw [hp] at hb;simp only [Option.map_some,Option.some.injEq] at hb;subst hb;have hpm:=mG hp;have hMp:=MemPage_some A c ps 0 p hp w (nR _) h1 h0 (h3 p hpm).rd (h3 p hpm).long;simp only [Int.natCast_zero] at hMp;have hF:=fun W=>fault_any sBegin ⟨#[]⟩ k W;unfold sBegin at hF;have HG:=lH hge;clear h1 h2 h3 hp hge;go_enter Tryz.func25,Tryz.ntmps25
  go_wp2_with (first
   | (go_at_call 243;refine hMp.mono ?_))
  rintro e w2 ⟨A',c',rfl,ho,hb2⟩;have hN:=NGet_any (B:=w2.heap.size) A' c' p.b w2 (nR _) ho.rd (own_capB ho)
  go_wp2_with (first
   | (go_at_call 69;refine hN.mono ?_))
  rintro e w3 hR;obtain ⟨⟨y,hy,rfl,hya,hylo⟩,hb3⟩:=getR_R hR;unfold NX.val nodeV
  obtain ⟨W,hW⟩:∃ W,W=w3.alloc (.cells y.cells 52):=⟨_,rfl⟩
  have hbw3:=hb2.trans (hb3.mono hb2.size)
  have hbW:Below w.heap.size w W:=by rw [hW];exact hbw3.alloc hbw3.size _
  have hBW:Blk W w3.heap.size 52 y.cells:=by rw [hW];exact Blk.new _ _ _
  have g0:W.cell? ⟨w3.heap.size,0,none⟩=some (.int .i64 y.kind):=hBW.cell 0;unfold NX.cells at hW;have HW:=lH hW;clear hW hBW
  rcases HG.out with hge | ⟨rfl,n,hge,hn⟩
  ·have ec:codeR (getP p.b)=k:=by rw [hge];rfl
   rw [ec]
   have z1:(k==0)=false:=by simpa using hk
   have z2:(k != 0)=true:=by simpa using hk
   clear hge ec
   go_wp2_with (first
    | (rw [<-HW.out];go_at_call 51;refine (hF _).mono ?_;rintro e w5 ⟨v,rfl,hv5,hb5⟩))
   go_ret2;exact ⟨⟨v,rfl,hv5.lo hbW.size⟩,hbW.trans (hb5.mono hbW.size)⟩
  ·have ec:codeR (getP p.b)=0:=by rw [hge];rfl
   have ek:y.kind≠1:=by
    have:y.n.kind=n.kind:=by rw [hy,hge];rfl
    rw [show y.kind=y.n.kind from rfl,this];exact hn
   have z1:(y.kind != 1)=true:=by simpa using ek
   rw [ec];clear hge ec ek
   go_wp2_with (first
    | (rw [<-HW.out];go_at_call 51;refine (hF _).mono ?_;rintro e w5 ⟨v,rfl,hv5,hb5⟩))
   go_ret2;exact ⟨⟨v,rfl,hv5.lo hbW.size⟩,hbW.trans (hb5.mono hbW.size)⟩
theorem KeepX.of_below' {X:Nat->Prop} {w w':World} (h:Below w.heap.size w w'):KeepX X w w':=KeepX.of_below h
theorem SrcAt.cut {Y:Nat->Prop} {w:World} {v:Value} {src:List (List UInt8)} (h:SrcAt Y w v src):SrcAt (fun k=>Y k/\k<w.heap.size) w v src:=by
 obtain ⟨A,c,ps,e1,e2,h1,h0,h2,h3⟩:=h;exact ⟨A,c,ps,e1,e2,h1,h0,fun hn ad e=>⟨h2 hn ad e,(h2 hn ad e).2⟩,fun p hp=>(h3 p hp).cut⟩
theorem Begin_ok {Y:Nat->Prop} {v:Value} {src:List (List UInt8)} (lsn:Nat) (w:World) (hs:SrcAt Y w v src) {b:List UInt8} (hb:src[0]?=some b) {n:PN} (hgb:getP b=.ok n) (hn:n.kind=1) (hg:GlobAt w) (ht:PowAt w) :
 Calls Tryz.prog 25 #[v,.int .u64 (lsn:Nat)] w fun e w'=>(∃ T M,e=.returned (.tuple #[.pointer (some ⟨T,0,none⟩),.nilIface])/\TX (moreX Y w) w' T M ⟨src,lsn,n.root,n.pages,n.free,n.entries,[],false⟩/\w.heap.size<=T/\w.heap.size<=M)/\Below w.heap.size w w':=by
 have hme:=fun v W=>page_meth v W;have hmm:=@run_makeMap Tryz.prog;have h1lt:=pow_lt ht;have HS:=lH hs;obtain ⟨A,c,ps,rfl,rfl,h1,h0,h2,h3⟩:=hs;rw [List.getElem?_map] at hb
 cases hp:ps[0]? with
 | none=>rw [hp] at hb;cases hb
 | some p =>
  rw [hp] at hb;simp only [Option.map_some,Option.some.injEq] at hb;subst hb;have hpm:=mG hp;have hMp:=MemPage_some A c ps 0 p hp w (nR _) h1 h0 (h3 p hpm).rd (h3 p hpm).long;simp only [Int.natCast_zero] at hMp;clear h1 h2 h3 hp;go_enter Tryz.func25,Tryz.ntmps25
  go_wp2_with (first
   | (go_at_call 243;refine hMp.mono ?_))
  rintro e w2 ⟨A',c',rfl,ho,hb2⟩;have hN:=NGet_any (B:=w2.heap.size) A' c' p.b w2 (nR _) ho.rd (own_capB ho)
  go_wp2_with (first
   | (go_at_call 69;refine hN.mono ?_))
  rintro e w3 hR;obtain ⟨⟨y,hy,rfl,hya,hylo⟩,hb3⟩:=getR_R hR;rw [hgb] at hy;have hy':y.n=n:=hy
  have ec:codeR (getP p.b)=0:=by rw [hgb];rfl
  rw [ec]
  have ek:y.kind=1:=by rw [<-hn,<-hy'];rfl
  have er1:y.root=n.root:=by rw [<-hy'];rfl
  have er2:y.pages=n.pages:=by rw [<-hy'];rfl
  have er3:y.free=n.free:=by rw [<-hy'];rfl
  have er4:y.entries=n.entries:=by rw [<-hy'];rfl
  unfold NX.val nodeV
  obtain ⟨W,hW⟩:∃ W,W=w3.alloc (.cells y.cells 52):=⟨_,rfl⟩
  have hbw3:=hb2.trans (hb3.mono hb2.size)
  have hbW:Below w.heap.size w W:=by rw [hW];exact hbw3.alloc hbw3.size _
  have hBW:Blk W w3.heap.size 52 y.cells:=by rw [hW];exact Blk.new _ _ _
  have z1:(y.kind != 1)=false:=by rw [ek];rfl
  have HE:=lH (aI er1 (aI er2 (aI er3 er4)));clear hW hBW hy hy' ek er1 er2 er3 er4 ec hbW
  go_wp2_with fail
  go_ret2;obtain ⟨er1,er2,er3,er4⟩:=HE.out
  obtain ⟨W1,hW1⟩:∃ W1,W1=w3.alloc (.cells #[.int .i64 y.kind,.int .u64 (y.lsn:Nat),.slice y.ca y.l.length y.cc,.int .u32 (y.next:Nat),.slice y.da y.data.length y.dc,.int .u32 (y.root:Nat),.int .u32 (y.pages:Nat),.int .u32 (y.free:Nat),.int .u64 (y.entries:Nat)] 52):=⟨_,rfl⟩
  have hs1:W1.heap.size=w3.heap.size+1:=by rw [hW1];simp
  have hb1:Below w.heap.size w W1:=by rw [hW1];exact hbw3.alloc hbw3.size _
  rw [<-hW1];have hba:Below w.heap.size w (W1.alloc (.map #[] 0)):=hb1.alloc hb1.size _;have hb5:Below w.heap.size w ((W1.alloc (.map #[] 0)).alloc (.cells #[.iface 66 (.agg #[.slice A ps.length c]),.int .u64 (lsn:Nat),.int .u32 (y.root:Nat),.int .u32 (y.pages:Nat),.int .u32 (y.free:Nat),.int .u64 (y.entries:Nat),.map (some (w3.heap.size+1)),.bool false] 95)):=hba.alloc hba.size _;have hsl:w.heap.size<=w3.heap.size:=hbw3.size;refine ⟨⟨_,w3.heap.size+1,rfl,⟨[],0,.iface 66 (.agg #[.slice A ps.length c]),by omega,.inr (by show w.heap.size<=w3.heap.size+1+1;omega),.inr (by show w.heap.size<=w3.heap.size+1;omega),?_,?_,⟨fun e he=>absurd he (List.not_mem_nil),List.nodup_nil⟩,rfl,fun e he=>absurd he (List.not_mem_nil),?_⟩,by omega,by omega⟩,hb5⟩
  ·rw [<-er1,<-er2,<-er3,<-er4];exact blk_newH _ _ _ (by simp [hs1])
  ·rw [Below.heap_alloc _ _ _ (by simp [hs1]),<-hs1];show (W1.heap.push _)[W1.heap.size]?=_;simp
  ·exact (HS.out.cut.keep (KeepX.of_below' hb5)).mono fun k hk=>⟨.inl hk.1,by omega,by omega⟩
theorem Begin_all {Y:Nat->Prop} {v:Value} {src:List (List UInt8)} (lsn:Nat) (w:World) (hs:SrcAt Y w v src) (hg:GlobAt w) (ht:PowAt w) :
 Calls Tryz.prog 25 #[v,.int .u64 (lsn:Nat)] w fun e w'=>BeginR Y w (beginT src lsn) e w'/\Below w.heap.size w w':=by
 unfold beginT
 cases hb:src[0]? with
 | none=>exact Begin_none lsn w hs (by cases src with
  | nil=>rfl
  | cons a l=>simp at hb) hg ht
 | some b =>
  simp only
  cases hgb:getP b with
  | error k =>
   have:=getP_err hgb;exact Begin_err lsn w hs hb (by omega) (.inl hgb) hg ht
  | ok n =>
   simp only;by_cases hn:n.kind=1
   ·rw [if_pos hn];exact Begin_ok lsn w hs hb hgb hn hg ht
   ·rw [if_neg hn];exact Begin_err lsn w hs hb (by decide) (.inr ⟨rfl,n,hgb,hn⟩) hg ht
end Go.Proofs.YtenfkghoolegfaaGreatDoor
namespace Go.Proofs.YtenfkghoolegfaaGreatDoor
section
open Go.Sort Go.RowKit
theorem u_Less (x y:Int) (w:World):Calls Tryz.prog 161 #[.int .u32 x,.int .u32 y] w fun e w'=>e=.returned (.bool (Sort.ltInt x y))/\w'=w:=by
 refine (Less_any x y w).mono ?_;rintro e w' ⟨rfl,h⟩;exact ⟨rfl,h⟩
theorem holds_aside_u {w:World} {blk off sb so n t:Nat} {d:Array Int} (h:Holds (Value.int .u32) w blk off d) (hne:sb≠blk):Holds (Value.int .u32) (putRow (Value.int .i64) (Sort.ahead w n) sb so (one t)) blk off d:=fun j hj =>
 ⟨by rw [cell?_putRow_other _ _ _ _ _ _ (Or.inl (Ne.symm hne))];exact (h j hj).1,by rw [frozen?_putRow];exact (h j hj).2⟩
theorem u_order2 (d:Array Int) (len:Nat) (hlen:d.size=len) (blk off cap a b sb so s:Nat) (w:World) (hH:Holds (Value.int .u32) w blk off d) (ha:a<d.size) (hb:b<d.size)
 (hS:Holds (Value.int .i64) w sb so (one s)) (hs:s<2 ^ 62) :
 Calls Tryz.prog 215 #[.slice (some ⟨blk,off,none⟩) len cap,.int .i64 a,.int .i64 b,.pointer (some ⟨sb,so,none⟩)] w fun e w' =>
  e=.returned (.tuple #[.int .i64 (order2 ltInt d a b s).1,.int .i64 (order2 ltInt d a b s).2.1])/\∃ n,w'=putRow (Value.int .i64) (Sort.ahead w n) sb so (one (order2 ltInt d a b s).2.2):=by
 subst hlen
 replace hs:s<4611686018427387904:=by omega
 have ca:=(hH a ha).1;have cb:=(hH b hb).1;obtain ⟨cs,fs⟩:=one_cell hS;have ea:d[a]! = d[a]:=getElem!_pos d a ha;have eb:d[b]! = d[b]:=getElem!_pos d b hb;go_enter Tryz.func215,Tryz.ntmps215;go_wp2
 go_region_with (go_at_call 161;refine (u_Less _ _ _).mono ?_;rintro e w' ⟨rfl,rfl⟩)
 all_goals (try go_wp2)
 all_goals first
  | (
   have hlt:ltInt d[b] d[a]=true:=by assumption
   have e2:order2 ltInt d a b s=(b,a,s+1):=by simp [order2,ea,eb,hlt]
   go_ret2;rw [e2];refine ⟨rfl,1,?_⟩;rw [putRow_ahead,<-one_set hS (s+1)]
   simp [drew_eq_ahead])
  | (
   have hlt:ltInt d[b] d[a]=false:=by assumption
   have e2:order2 ltInt d a b s=(a,b,s):=by simp [order2,ea,eb,hlt]
   go_ret2;rw [e2];refine ⟨rfl,1,?_⟩;rw [putRow_ahead,putRow_self _ _ _ _ _ hS]
   rfl)
theorem order2_lt_u (d:Array Int) {a b n:Nat} (s:Nat) (ha:a<n) (hb:b<n):(order2 ltInt d a b s).1<n/\(order2 ltInt d a b s).2.1<n:=by
 have:=order2_mem ltInt d a b s;omega
theorem order2_swaps_u (d:Array Int) (a b s:Nat):(order2 ltInt d a b s).2.2<=s+1:=by
 unfold order2
 split <;> simp
theorem u_median (d:Array Int) (len:Nat) (hlen:d.size=len) (blk off cap a b c sb so s:Nat) (w:World) (hH:Holds (Value.int .u32) w blk off d) (ha:a<d.size) (hb:b<d.size) (hc:c<d.size) (hne:sb≠blk)
 (hS:Holds (Value.int .i64) w sb so (one s)) (hs:s+3<2 ^ 62) :
 Calls Tryz.prog 197 #[.slice (some ⟨blk,off,none⟩) len cap,.int .i64 a,.int .i64 b,.int .i64 c,.pointer (some ⟨sb,so,none⟩)] w fun e w' =>
  e=.returned (.int .i64 (median ltInt d a b c s).1)/\∃ n,w'=putRow (Value.int .i64) (Sort.ahead w n) sb so (one (median ltInt d a b c s).2):=by
 subst hlen;have l1:=order2_lt_u d s ha hb;have s1:=order2_swaps_u d a b s;have l2:=order2_lt_u d (order2 ltInt d a b s).2.2 l1.2 hc;have s2:=order2_swaps_u d (order2 ltInt d a b s).2.1 c (order2 ltInt d a b s).2.2;go_enter Tryz.func197,Tryz.ntmps197
 go_wp2_with (go_at_call_of 215 (Value.int .i64 (b:Int));refine (u_order2 d _ rfl blk off cap a b sb so s w hH ha hb hS (by omega)).mono ?_;rintro e w' ⟨rfl,n1,rfl⟩)
 go_wp2_with (go_at_call_of 215 (Value.int .i64 (c:Int));refine (u_order2 d _ rfl blk off cap (order2 ltInt d a b s).2.1 c sb so (order2 ltInt d a b s).2.2 _ (holds_aside_u hH hne) l1.2 hc (holds_one hS) (by omega)).mono ?_;rintro e w' ⟨rfl,n2,rfl⟩)
 go_wp2_with (go_at_call_of 215 (Value.int .i64 ((order2 ltInt d a b s).1:Int));refine (u_order2 d _ rfl blk off cap (order2 ltInt d a b s).1 (order2 ltInt d (order2 ltInt d a b s).2.1 c (order2 ltInt d a b s).2.2).1 sb so (order2 ltInt d (order2 ltInt d a b s).2.1 c (order2 ltInt d a b s).2.2).2.2 _
  (holds_aside_u (holds_aside_u hH hne) hne) l1.1 l2.1 (holds_one (holds_one hS)) (by omega)).mono ?_;rintro e w' ⟨rfl,n3,rfl⟩)
 go_ret;refine ⟨rfl,n1+(n2+n3),?_⟩;rw [one_one,one_one];rfl
theorem u_medianAdjacent (d:Array Int) (len:Nat) (hlen:d.size=len) (blk off cap a sb so s:Nat) (w:World) (hH:Holds (Value.int .u32) w blk off d) (ha0:1<=a) (ha:a+1<d.size) (hsz:d.size<2 ^ 62) (hne:sb≠blk)
 (hS:Holds (Value.int .i64) w sb so (one s)) (hs:s+3<2 ^ 62) :
 Calls Tryz.prog 196 #[.slice (some ⟨blk,off,none⟩) len cap,.int .i64 a,.pointer (some ⟨sb,so,none⟩)] w fun e w' =>
  e=.returned (.int .i64 (medianAdjacent ltInt d a s).1)/\∃ n,w'=putRow (Value.int .i64) (Sort.ahead w n) sb so (one (medianAdjacent ltInt d a s).2):=by
 subst hlen
 replace hsz:d.size<4611686018427387904:=by omega
 go_enter Tryz.func196,Tryz.ntmps196
 go_wp2_with (go_at_call 197;rw [show ((a:Int)-1)=((a-1:Nat):Int) by omega,show ((a:Int)+1)=((a+1:Nat):Int) by omega];refine (u_median d _ rfl blk off cap (a-1) a (a+1) sb so s w hH (by omega) (by omega) ha hne hS hs).mono ?_;rintro e w' ⟨rfl,n1,rfl⟩)
 go_ret;exact ⟨rfl,n1,rfl⟩
theorem pivot_world_u (blk off cap:Nat) (d:Array Int) (w:World) (hH:Holds (Value.int .u32) w blk off d) (hblk:blk<w.heap.size) (hsz:d.size<4611686018427387904) :
 ∃ Wc:Nat->Nat->World,
  w.alloc (.cells #[.int .i64 0] 3)=Wc 0 0 /\
  (∀ N S:Nat,(Wc N S).cell? ⟨w.heap.size,0,none⟩=some (.int .i64 (S:Int))) /\
  (∀ N S:Nat,∃ os,Wc N S=grow (Sort.ahead w N) os) /\
  (∀ x s N:Nat,1<=x->x+1<d.size->s+3<4611686018427387904->Calls Tryz.prog 196 #[.slice (some ⟨blk,off,none⟩) d.size cap,.int .i64 (x:Int),.pointer (some ⟨w.heap.size,0,none⟩)] (Wc N s) fun e w' =>
   e=.returned (.int .i64 ((medianAdjacent ltInt d x s).1:Int))/\∃ N',w'=Wc N' (medianAdjacent ltInt d x s).2) /\
  (∀ x y z s N:Nat,x<d.size->y<d.size->z<d.size->s+3<4611686018427387904->Calls Tryz.prog 197 #[.slice (some ⟨blk,off,none⟩) d.size cap,.int .i64 (x:Int),.int .i64 (y:Int),.int .i64 (z:Int),.pointer (some ⟨w.heap.size,0,none⟩)] (Wc N s) fun e w' =>
   e=.returned (.int .i64 ((median ltInt d x y z s).1:Int))/\∃ N',w'=Wc N' (median ltInt d x y z s).2):=by
 have hne:w.heap.size≠blk:=by omega
 have hH0:Holds (Value.int .u32) (w.alloc (.cells #[.int .i64 0] 3)) blk off d:=by rw [alloc_eq_grow];exact holds_grow _ _ _ _ _ _ hblk hH
 have hS0:Holds (Value.int .i64) (w.alloc (.cells #[.int .i64 0] 3)) w.heap.size 0 (one 0):=fun j hj=>by
  obtain rfl:j=0:=by simpa using hj
  simp
 refine ⟨fun N S=>putRow (Value.int .i64) (Sort.ahead (w.alloc (.cells #[.int .i64 0] 3)) N) w.heap.size 0 (one S),(putRow_self _ _ _ _ _ hS0).symm,fun N S=>(one_cell (holds_one (n:=N) (t:=S) hS0)).1,fun N S=>counter_grow w N S,?_,?_⟩
 ·intro x s N h1 h2 hs;refine (u_medianAdjacent d _ rfl blk off cap x w.heap.size 0 s _ (holds_aside_u hH0 hne) h1 h2 (by omega) hne (holds_one hS0) (by omega)).mono ?_;rintro e w' ⟨he,n,hw⟩;exact ⟨he,N+n,by rw [hw,one_one]⟩
 ·intro x y z s N h1 h2 h3 hs;refine (u_median d _ rfl blk off cap x y z w.heap.size 0 s _ (holds_aside_u hH0 hne) h1 h2 h3 hne (holds_one hS0) (by omega)).mono ?_;rintro e w' ⟨he,n,hw⟩;exact ⟨he,N+n,by rw [hw,one_one]⟩
theorem u_choosePivot (blk off cap a b:Nat) (d:Array Int) (w:World) (hH:Holds (Value.int .u32) w blk off d) (hblk:blk<w.heap.size) (hab:a<b) (hb:b<=d.size) (hsz:d.size<4611686018427387904) :
 Calls Tryz.prog 158 #[.slice (some ⟨blk,off,none⟩) d.size cap,.int .i64 a,.int .i64 b] w fun e w' =>
  e=.returned (.tuple #[.int .i64 (choosePivot ltInt d a b).1,.int .i64 (hintCode (choosePivot ltInt d a b).2)])/\∃ n os,w'=grow (Sort.ahead w n) os:=by
 obtain ⟨Wc,hW0,cS,hG,MA,MD⟩:=pivot_world_u blk off cap d w hH hblk hsz;clear hH;rw [choosePivot_eq]
 obtain ⟨I,hI⟩:∃ I:Nat,I=a+(b-a) / 4*1:=⟨_,rfl⟩
 obtain ⟨J,hJ⟩:∃ J:Nat,J=a+(b-a) / 4*2:=⟨_,rfl⟩
 obtain ⟨K,hK⟩:∃ K:Nat,K=a+(b-a) / 4*3:=⟨_,rfl⟩
 have eI:((a:Int)+((b:Int)-(a:Int)) / 4)=(I:Int):=by omega
 have eJ:((a:Int)+((b:Int)-(a:Int)) / 4*2)=(J:Int):=by omega
 have eK:((a:Int)+((b:Int)-(a:Int)) / 4*3)=(K:Int):=by omega
 by_cases h8:b-a ≥ 8
 ·by_cases h50:b-a ≥ 50
  ·
    obtain ⟨i1,s1,h1⟩:∃ i1 s1,medianAdjacent ltInt d I 0=(i1,s1):=⟨_,_,rfl⟩
    obtain ⟨j1,s2,h2⟩:∃ j1 s2,medianAdjacent ltInt d J s1=(j1,s2):=⟨_,_,rfl⟩
    obtain ⟨k1,s3,h3⟩:∃ k1 s3,medianAdjacent ltInt d K s2=(k1,s3):=⟨_,_,rfl⟩
    obtain ⟨p,s,h4⟩:∃ p s,median ltInt d i1 j1 k1 s3=(p,s):=⟨_,_,rfl⟩
    have hraw:rawPivot ltInt d a b=(p,s):=by simp only [rawPivot,if_pos h8,if_pos h50,<-hI,<-hJ,<-hK,h1,h2,h3,h4]
    have m1:=medianAdjacent_mem ltInt d I 0;rw [h1] at m1;have m2:=medianAdjacent_mem ltInt d J s1;rw [h2] at m2;have m3:=medianAdjacent_mem ltInt d K s2;rw [h3] at m3;have n1:=medianAdjacent_count ltInt d I 0;rw [h1] at n1;have n2:=medianAdjacent_count ltInt d J s1;rw [h2] at n2;have n3:=medianAdjacent_count ltInt d K s2;rw [h3] at n3;simp only [] at m1 m2 m3 n1 n2 n3
    have c1:Calls Tryz.prog 196 #[.slice (some ⟨blk,off,none⟩) d.size cap,.int .i64 (I:Int),.pointer (some ⟨w.heap.size,0,none⟩)] (Wc 0 0) fun e w'=>e=.returned (.int .i64 (i1:Int))/\∃ N',w'=Wc N' s1:=by
     have h:=MA I 0 0 (by omega) (by omega) (by omega);rw [h1] at h;exact h
    have c2:∀ N,Calls Tryz.prog 196 #[.slice (some ⟨blk,off,none⟩) d.size cap,.int .i64 (J:Int),.pointer (some ⟨w.heap.size,0,none⟩)] (Wc N s1) fun e w'=>e=.returned (.int .i64 (j1:Int))/\∃ N',w'=Wc N' s2:=fun N=>by
     have h:=MA J s1 N (by omega) (by omega) (by omega);rw [h2] at h;exact h
    have c3:∀ N,Calls Tryz.prog 196 #[.slice (some ⟨blk,off,none⟩) d.size cap,.int .i64 (K:Int),.pointer (some ⟨w.heap.size,0,none⟩)] (Wc N s2) fun e w'=>e=.returned (.int .i64 (k1:Int))/\∃ N',w'=Wc N' s3:=fun N=>by
     have h:=MA K s2 N (by omega) (by omega) (by omega);rw [h3] at h;exact h
    have c4:∀ N,Calls Tryz.prog 197 #[.slice (some ⟨blk,off,none⟩) d.size cap,.int .i64 (i1:Int),.int .i64 (j1:Int),.int .i64 (k1:Int),.pointer (some ⟨w.heap.size,0,none⟩)] (Wc N s3) fun e w'=>e=.returned (.int .i64 (p:Int))/\∃ N',w'=Wc N' s:=fun N=>by
     have h:=MD i1 j1 k1 s3 N (by omega) (by omega) (by omega) (by omega);rw [h4] at h;exact h
    rw [hraw]
    obtain ⟨Hc,hHc⟩:∃ Hc:Int,Hc=hintCode (hintOf s):=⟨_,rfl⟩
    have hh0:s=0->Hc=1:=fun h=>by rw [hHc,h];rfl
    have hh12:s=12->Hc=2:=fun h=>by rw [hHc,h];rfl
    have hhx:s≠0->s≠12->Hc=0:=fun h1 h2=>by rw [hHc];unfold hintOf;rw [if_neg h1,if_neg h2];rfl
    show Calls Tryz.prog 158 _ w fun e w'=>e=.returned (.tuple #[.int .i64 (p:Int),.int .i64 (hintCode (hintOf s))])/\∃ n os,w'=grow (Sort.ahead w n) os;rw [<-hHc];clear hHc hraw;clear h1 h2 h3 h4 MA MD hI hJ hK m1 m2 m3;go_enter Tryz.func158,Tryz.ntmps158
    go_wp2_with (first
     | (go_at_call_has 196 (Value.int .i64 (I:Int));refine c1.mono ?_;rintro e w' ⟨rfl,N1,rfl⟩)
     | (go_at_call_has 196 (Value.int .i64 (J:Int));refine (c2 _).mono ?_;rintro e w' ⟨rfl,N2,rfl⟩)
     | (go_at_call_has 196 (Value.int .i64 (K:Int));refine (c3 _).mono ?_;rintro e w' ⟨rfl,N3,rfl⟩)
     | (go_at_call 197;refine (c4 _).mono ?_;rintro e w' ⟨rfl,N4,rfl⟩))
    all_goals
     go_ret2;refine ⟨?_,_,hG _ _⟩
     first
      | (
       have e0:(s:Int)=0:=of_beq_int (by assumption)
       rw [hh0 (by omega)];rfl)
      | (
       have e1:(s:Int)=12:=of_beq_int (by assumption)
       rw [hh12 (by omega)];rfl)
      | (
       have e0:(s:Int)≠0:=of_bne_int (by assumption);have e1:(s:Int)≠12:=of_bne_int (by assumption)
       rw [hhx (by omega) (by omega)];rfl)
      | (rw [hh0 (by omega)];rfl)
  ·
    obtain ⟨p,s,h4⟩:∃ p s,median ltInt d I J K 0=(p,s):=⟨_,_,rfl⟩
    have hraw:rawPivot ltInt d a b=(p,s):=by simp only [rawPivot,if_pos h8,if_neg h50,<-hI,<-hJ,<-hK,h4]
    have c4:Calls Tryz.prog 197 #[.slice (some ⟨blk,off,none⟩) d.size cap,.int .i64 (I:Int),.int .i64 (J:Int),.int .i64 (K:Int),.pointer (some ⟨w.heap.size,0,none⟩)] (Wc 0 0) fun e w'=>e=.returned (.int .i64 (p:Int))/\∃ N',w'=Wc N' s:=by
     have h:=MD I J K 0 0 (by omega) (by omega) (by omega) (by omega);rw [h4] at h;exact h
    rw [hraw]
    obtain ⟨Hc,hHc⟩:∃ Hc:Int,Hc=hintCode (hintOf s):=⟨_,rfl⟩
    have hh0:s=0->Hc=1:=fun h=>by rw [hHc,h];rfl
    have hh12:s=12->Hc=2:=fun h=>by rw [hHc,h];rfl
    have hhx:s≠0->s≠12->Hc=0:=fun h1 h2=>by rw [hHc];unfold hintOf;rw [if_neg h1,if_neg h2];rfl
    show Calls Tryz.prog 158 _ w fun e w'=>e=.returned (.tuple #[.int .i64 (p:Int),.int .i64 (hintCode (hintOf s))])/\∃ n os,w'=grow (Sort.ahead w n) os;rw [<-hHc];clear hHc hraw;clear h4 MA MD hI hJ hK;go_enter Tryz.func158,Tryz.ntmps158
    go_wp2_with (first | (go_at_call 197;refine c4.mono ?_;rintro e w' ⟨rfl,N4,rfl⟩))
    all_goals
     go_ret2;refine ⟨?_,_,hG _ _⟩
     first
      | (
       have e0:(s:Int)=0:=of_beq_int (by assumption)
       rw [hh0 (by omega)];rfl)
      | (
       have e1:(s:Int)=12:=of_beq_int (by assumption)
       rw [hh12 (by omega)];rfl)
      | (
       have e0:(s:Int)≠0:=of_bne_int (by assumption);have e1:(s:Int)≠12:=of_bne_int (by assumption)
       rw [hhx (by omega) (by omega)];rfl)
      | (rw [hh0 (by omega)];rfl)
 ·
   obtain ⟨p,hp⟩:∃ p:Nat,p=J:=⟨_,rfl⟩
   obtain ⟨s,hs⟩:∃ s:Nat,s=0:=⟨_,rfl⟩
   have hraw:rawPivot ltInt d a b=(p,s):=by simp only [rawPivot,if_neg h8,<-hJ,hp,hs]
   rw [hraw]
   obtain ⟨Hc,hHc⟩:∃ Hc:Int,Hc=hintCode (hintOf s):=⟨_,rfl⟩
   have hh0:s=0->Hc=1:=fun h=>by rw [hHc,h];rfl
   have hh12:s=12->Hc=2:=fun h=>by rw [hHc,h];rfl
   have hhx:s≠0->s≠12->Hc=0:=fun h1 h2=>by rw [hHc];unfold hintOf;rw [if_neg h1,if_neg h2];rfl
   show Calls Tryz.prog 158 _ w fun e w'=>e=.returned (.tuple #[.int .i64 (p:Int),.int .i64 (hintCode (hintOf s))])/\∃ n os,w'=grow (Sort.ahead w n) os;rw [<-hHc];clear hHc hraw;subst hp;clear MA MD hI hJ hK
   have hW0':w.alloc (.cells #[.int .i64 0] 3)=Wc 0 s:=by rw [hs];exact hW0
   clear hW0;go_enter Tryz.func158,Tryz.ntmps158;go_wp2
   all_goals
    go_ret2;refine ⟨?_,_,hG _ _⟩
    first
     | (
      have e0:(s:Int)=0:=of_beq_int (by assumption)
      rw [hh0 (by omega)];rfl)
     | (
      have e1:(s:Int)=12:=of_beq_int (by assumption)
      rw [hh12 (by omega)];rfl)
     | (
      have e0:(s:Int)≠0:=of_bne_int (by assumption);have e1:(s:Int)≠12:=of_bne_int (by assumption)
      rw [hhx (by omega) (by omega)];rfl)
     | (rw [hh0 (by omega)];rfl)
end
end Go.Proofs.YtenfkghoolegfaaGreatDoor
