/- A part of the proof of DiskSaves. No condition of its own. -/
import Derived.Test.YtekajggjoeimoaaGreatDoorSo
import Derived.Laws.Bits64b
import Derived.Conc.WgArith
import Derived.RangeFuncWrites
import Derived.RangeFuncNested
import Derived.RangeFuncBound
import Derived.RangeFuncCalls
set_option linter.unusedVariables false
namespace Go.Proofs.YtekajggjoeimoaaGreatDoor
section
open Go.RowKit Go.Shelf
attribute [local go_sem] Oper.semAt_some
theorem step_bits (n c:Nat) (hn:n<144115188075855872) (hc:c<256):bits .or .u64 (IntKind.u64.wrap ((n:Int)*128)) (IntKind.u64.wrap (bits .and .u8 (c:Int) 127))=((n*128+c % 128:Nat):Int):=by
 have e1:bits .and .u8 (c:Int) 127=((c % 128:Nat):Int):=by
  have h:=(bits_nat .u8 8 (by decide) (fun n h0 h1=>by rw [IntKind.wrap_u8];omega) c 127 hc (by decide)).1
  have h2:=Nat.and_two_pow_sub_one_eq_mod c 7
  rw [show (2:Nat) ^ 7-1=127 from rfl,show (2:Nat) ^ 7=128 from rfl] at h2
  rw [h2] at h
  exact h
 have e2:IntKind.u64.wrap ((n:Int)*128)=((n*128:Nat):Int):=by rw [IntKind.wrap_u64];omega
 have e3:IntKind.u64.wrap ((c % 128:Nat):Int)=((c % 128:Nat):Int):=by rw [IntKind.wrap_u64];omega
 rw [e1,e3,e2]
 have h:=bits_or_u64_nat (n*128) (c % 128) (by omega) (by omega)
 have h2:=Nat.two_pow_add_eq_or_of_lt (i:=7) (b:=c % 128) (by omega) n
 rw [h,show n*128=2 ^ 7*n by omega,←h2]
theorem step_mod (n c m:Nat) (hm:m=n % 18446744073709551616) (hc:c<256):bits .or .u64 (IntKind.u64.wrap ((m:Int)*128)) (IntKind.u64.wrap (bits .and .u8 (c:Int) 127))=(((n*128+c % 128) % 18446744073709551616:Nat):Int):=by
 have h:=step_bits (m % 144115188075855872) c (by omega) hc
 have e:IntKind.u64.wrap ((m:Int)*128)=IntKind.u64.wrap (((m % 144115188075855872:Nat):Int)*128):=by rw [IntKind.wrap_u64,IntKind.wrap_u64];omega
 rw [e,h]
 congr 1
 omega
def accM (pre:List (Nat × UInt8)):Nat:=accN pre % 18446744073709551616
theorem accM_step (pre:List (Nat × UInt8)) (x:Nat × UInt8):bits .or .u64 (IntKind.u64.wrap ((accM pre:Int)*128)) (IntKind.u64.wrap (bits .and .u8 (x.2.toNat:Int) 127))=((accM (pre++[x]):Nat):Int):=by
 unfold accM
 rw [accN_snoc]
 exact step_mod (accN pre) x.2.toNat _ rfl x.2.toNat_lt
theorem backN_snoc (c:UInt8):∀ (l:List UInt8),backN (l++[c])=backN l+128 ^ l.length*(c.toNat % 128)
 | []=>by simp [backN]
 | d::l=>by
  have h:=backN_snoc c l
  rw [List.cons_append,backN,h,backN,List.length_cons,Nat.pow_succ]
  generalize 128 ^ l.length=p
  rw [Nat.add_mul,Nat.mul_right_comm,Nat.mul_comm p 128,Nat.mul_assoc 128,Nat.mul_comm 128 (p*_)]
  omega
theorem backN_fit (b:List UInt8) (h:b.length≤9):backN b<18446744073709551616:=by
 have h1:=backN_lt b
 have h2:128 ^ b.length≤128 ^ 9:=Nat.pow_le_pow_right (by decide) h
 have:(128:Nat) ^ 9=9223372036854775808:=by decide
 omega
theorem backN_fit10 (b:List UInt8) (h:9<b.length) (h1:(b.getD 9 0).toNat≤1):backN (b.take 10)<18446744073709551616:=by
 have e:b.take 10=b.take 9++[b.getD 9 0]:=by
  rw [List.take_add_one (i:=9),List.getD_eq_getElem?_getD,List.getElem?_eq_getElem h]
  rfl
 have l9:(b.take 9).length=9:=by rw [List.length_take];omega
 rw [e,backN_snoc,l9]
 have h3:=backN_lt (b.take 9)
 rw [l9] at h3
 have:(128:Nat) ^ 9=9223372036854775808:=by decide
 rw [this] at h3 ⊢
 omega
theorem reads_cell {B:Nat} {a:Addr} {b:List UInt8} {w:World} (hr:Reads w B 1 (some a) b.length (bl b)) (j:Nat) (hj:j<b.length):w.cell? (a.add j)=some (.int .u8 ((b.getD j 0).toNat:Nat)):=by
 obtain ⟨a',e',_,h2⟩:=hr.2 (by omega)
 cases e'
 exact h2 j (.int .u8 ((b.getD j 0).toNat:Int)) (by unfold bl;rw [List.getElem?_map,List.getElem?_eq_getElem hj,List.getD_eq_getElem?_getD,List.getElem?_eq_getElem hj];rfl)
theorem reads_low {B:Nat} {a:Addr} {b:List UInt8} {w:World} (hr:Reads w B 1 (some a) b.length (bl b)) (hj:0<b.length):a.block<w.heap.size:=by
 have:=World.block_lt_of_cell? w _ (reads_cell hr 0 hj)
 unfold Addr.add at this
 split at this <;> exact this
set_option maxHeartbeats 4000000 in
set_option maxRecDepth 100000 in
theorem VGet_go {B:Nat} (a:Addr) (cc L j y:Nat) (b:List UInt8) (w:World) (hB:B≤w.heap.size) (hr:Reads w B 1 (some a) b.length (bl b)) (hcap:b.length≤cc) (hL:L=min b.length 10) (hi:low (b.take 10) 0=some j) (hj:0<j) (hj9:j≠9) (hy:(b.getD j 0).toNat=y) (h0:y≠0) :
 Calls Tryz.prog 92 #[.slice (some a) b.length cc] w fun e w'=>e=.returned (.tuple #[.int .u64 (backN (b.take (j+1)):Nat),.int .i64 ((j:Int)+1),.int .i64 0])∧Below w.heap.size w w':=by
 have hl10:(b.take 10).length=L:=by rw [List.length_take];omega
 have hI:=LowIndex_any (some a) cc (b.take 10) (by rw [hl10];have:=reads_take (n:=L) hr (by omega);rwa [show b.take L=b.take 10 by rw [hL,Nat.min_comm,←List.take_take,List.take_length]] at this) hB (by omega)
 have e:lowI (b.take 10)=j:=by unfold lowI;rw [hi]
 rw [e,hl10] at hI
 have hjl:=(low_ge _ _ _ hi).2
 rw [hl10] at hjl
 have hmin:min (b.length:Int) 10=(L:Int):=by omega
 have hjb:j<b.length:=by omega
 have hc:w.cell? (a.add j)=some (.int .u8 (y:Nat)):=by rw [←hy];exact reads_cell hr j hjb
 have haw:=reads_low hr (by omega)
 have hbn:=backN_fit (b.take (j+1)) (by rw [List.length_take];omega)
 have b0:L≤cc:=by omega
 have b1:L≤b.length:=by omega
 have j0:(0:Int)≤(j:Int):=by omega
 have j1:(j:Int)<(L:Int):=by omega
 have j2:¬ (j:Int)<0:=by omega
 have j3:(0:Int)<(j:Int):=by omega
 have j4:j+1≤cc:=by omega
 have y0:¬ (y:Int)=0:=by omega
 have hcw:∀ W,Below w.heap.size w W→W.cell? (a.add j)=some (.int .u8 (y:Nat)):=fun W hW=>(hW.cell (World.block_lt_of_cell? w _ hc)).trans hc
 have d9:¬ (j:Int)=9:=by omega
 clear hi e hl10 hL hy h0
 refine (callsIn_wide (n:=3)).1 ?_
 refine callsIn_of_wp_marks Tryz.func92 rfl trivial ?_ rfl
 simp only [Tryz.ntmps92,List.size_toArray,List.length_cons,List.length_nil,Nat.reduceAdd,Nat.reduceSub,Array.replicate_succ,Array.replicate_zero,List.push_toArray,List.append_toArray,List.nil_append,List.cons_append]
 gi_wp2_with (first
  | (refine ⟨trivial,?_⟩;gi_at_call 108;refine (callsIn_wide.2 (back_go _ _ _ _)).mono ?_;rintro e w2 ⟨rfl,rfl⟩)
  | (refine ⟨trivial,?_⟩;gi_at_call 106;refine (callsIn_wide.2 hI).mono ?_;rintro e w1 ⟨rfl,hb⟩;have hcx:=hcw w1 hb))
 have hlen:(b.take (j+1)).length=(j+1):=by rw [List.length_take];omega
 have hW2:Below w.heap.size w ((w1.alloc (.cells #[.int .u64 0] 124)).alloc (.cells #[.slice (some a) (j+1) cc] 36)):=(hb.alloc hb.size _).alloc (by have:=hb.size;simp;omega) _
 have hcs:∀ i,i<(b.take (j+1)).length→((w1.alloc (.cells #[.int .u64 0] 124)).alloc (.cells #[.slice (some a) (j+1) cc] 36)).cell? (a.add i)=some (.int .u8 (((b.take (j+1)).getD i 0).toNat:Int)):=fun i hi=>by
  obtain ⟨a',e',_,h2⟩:=hr.2 (by omega)
  cases e'
  have hib:i<b.length:=by omega
  have:=h2 i (.int .u8 ((b.getD i 0).toNat:Int)) (by unfold bl;rw [List.getElem?_map,List.getElem?_eq_getElem hib,List.getD_eq_getElem?_getD,List.getElem?_eq_getElem hib];rfl)
  rw [hW2.cell (p:=a.add i) (World.block_lt_of_cell? w _ this),this]
  congr 3
  rw [List.getD_eq_getElem?_getD,List.getD_eq_getElem?_getD,List.getElem?_take,if_pos (by omega)]
 have hst:=back_stops Fence.wide 2 trivial rfl (by omega) (w1.heap.size+1) w1.heap.size cc a (b.take (j+1)) (by omega) _ (by simp) (by simp;omega) (Nat.lt_of_lt_of_le haw hb.size) (by
  have:=Blk.new (w1.alloc (.cells #[.int .u64 0] 124)) 36 #[.slice (some a) (j+1) cc]
  rw [hlen]
  have h:=this.cell 0
  simp) hcs
 have hKb:∀ (W:World) (l:Nat) (o o':Obj),w1.heap.size+1+1≤l→W.heap[l]?=some o→o.isCells=false→o.isWalk=false→KeepB w1.heap.size (w1.heap.size+1) W (W.putObj l o'):=fun W l o o' hl ho h1 h2 =>
  ⟨Below.mono (belowK_b (w:=w1) (Nat.le_refl _) W l o o' (by omega) ho h1 h2) (Nat.le_refl _),by
   have hlt:l<W.heap.size:=(Array.getElem?_eq_some_iff.1 ho).1
   simp [World.putObj,World.cell?,Array.getElem?_setIfInBounds,show l≠w1.heap.size+1 by omega]⟩
 have hAcc:=backN_all (b.take (j+1))
 rw [hlen] at hAcc
 refine' wpIn_rangeFunc_ownG rfl (by omega) (gf:=115) (lb:=#[.pointer (some ⟨w1.heap.size+1,0,none⟩)]) rfl trivial (enters_of Tryz.func115 (by kernel_rfl) rfl) hst keepB_t ?hkb (Below.refl _ _) (fun _=>rfl)
  (fun pre W=>(W.cell? ⟨w1.heap.size,0,none⟩=some (.int .u64 (accM pre:Nat))∧W.frozen? ⟨w1.heap.size,0,none⟩=false)∧Below w.heap.size w W)
  (fun _ _ _=>False) ?hi ?hix ?h0 _ ?assign ?body ?done ?stop
 case hkb=>exact fun W l o o' hl=>hKb W l o o' (by simpa using hl)
 case hi=>exact OwnFrom.and (Own.from (fun s A B row hs hg hr=>⟨cell_kept hs.1 hg hr,(frozen_kept hs.1 hg hr).trans hs.2⟩) _) (ownFrom_below (Nat.le_refl _) (by have:=hb.size;simp;omega))
 case hix=>exact fun _ _ _ _ _ hs _ _=>hs
 case h0 =>
  have bS:=Boxed.new w1 124 (.int .u64 0)
  exact ⟨⟨(bS.alloc _).cell,(bS.alloc _).frozen⟩,hW2⟩
 case assign =>
  intro l x W K hK
  gi_wp2
  exact hK
 case body =>
  rintro l pre x W ⟨⟨hca,hfa⟩,hBa⟩ hp
  have hv:=accM_step pre x
  gi_wp2
  exact ⟨(KeepsOthers.setCell _ _ _).from _,⟨(Below.refl w1.heap.size W).setCell (p:=⟨w1.heap.size,0,none⟩) (Nat.le_refl _) _,World.cell?_setCell_far _ _ _ _ (by simp)⟩,⟨by exact World.cell?_setCell_same' _ _ _ (by rw [hca];rfl),by rw [World.frozen?_setCell];exact hfa⟩,hBa.setCell (p:=⟨w1.heap.size,0,none⟩) hb.size _⟩
 case done =>
  rintro D ys W hD rfl ⟨⟨hca,_⟩,hBa⟩ hK
  gi_wp2
  refine ⟨by simp,.inl ⟨_,_,rfl,run_takeDeferred hK,?_⟩⟩
  refine ⟨_,results_tmp3 rfl _ _ _,?_,hBa.trans (belowK_b (w:=w) (Nat.le_refl _) W D _ _ (by have:=hb.size;simp at hD;omega) hK rfl rfl)⟩
  rw [←hAcc,←show accM _=accN _ from Nat.mod_eq_of_lt (by rw [hAcc];exact hbn)]
  rfl
 case stop =>
  rintro D c pre W _ _ h _
  exact h.elim
set_option maxHeartbeats 4000000 in
set_option maxRecDepth 100000 in
theorem VGet_one {B:Nat} (a:Addr) (cc L:Nat) (b:List UInt8) (w:World) (hB:B≤w.heap.size) (hr:Reads w B 1 (some a) b.length (bl b)) (hcap:b.length≤cc) (hL:L=min b.length 10) (hi:low (b.take 10) 0=some 0) :
 Calls Tryz.prog 92 #[.slice (some a) b.length cc] w fun e w'=>e=.returned (.tuple #[.int .u64 (backN (b.take 1):Nat),.int .i64 1,.int .i64 0])∧Below w.heap.size w w':=by
 have hl10:(b.take 10).length=L:=by rw [List.length_take];omega
 have hI:=LowIndex_any (some a) cc (b.take 10) (by rw [hl10];have:=reads_take (n:=L) hr (by omega);rwa [show b.take L=b.take 10 by rw [hL,Nat.min_comm,←List.take_take,List.take_length]] at this) hB (by omega)
 have e:lowI (b.take 10)=0:=by unfold lowI;rw [hi];rfl
 rw [e,hl10] at hI
 have hjl:=(low_ge _ _ _ hi).2
 rw [hl10] at hjl
 have hmin:min (b.length:Int) 10=(L:Int):=by omega
 have hjb:0<b.length:=by omega
 have haw:=reads_low hr (by omega)
 have hbn:=backN_fit (b.take 1) (by rw [List.length_take];omega)
 have b0:L≤cc:=by omega
 have b1:L≤b.length:=by omega
 have j1:(0:Int)<(L:Int):=by omega
 have j4:1≤cc:=by omega
 clear hi e hl10 hL
 refine (callsIn_wide (n:=3)).1 ?_
 refine callsIn_of_wp_marks Tryz.func92 rfl trivial ?_ rfl
 simp only [Tryz.ntmps92,List.size_toArray,List.length_cons,List.length_nil,Nat.reduceAdd,Nat.reduceSub,Array.replicate_succ,Array.replicate_zero,List.push_toArray,List.append_toArray,List.nil_append,List.cons_append]
 gi_wp2_with (first
  | (refine ⟨trivial,?_⟩;gi_at_call 108;refine (callsIn_wide.2 (back_go _ _ _ _)).mono ?_;rintro e w2 ⟨rfl,rfl⟩)
  | (refine ⟨trivial,?_⟩;gi_at_call 106;refine (callsIn_wide.2 hI).mono ?_;rintro e w1 ⟨rfl,hb⟩))
 have hlen:(b.take 1).length=1:=by rw [List.length_take];omega
 have hW2:Below w.heap.size w ((w1.alloc (.cells #[.int .u64 0] 124)).alloc (.cells #[.slice (some a) 1 cc] 36)):=(hb.alloc hb.size _).alloc (by have:=hb.size;simp;omega) _
 have hcs:∀ i,i<(b.take 1).length→((w1.alloc (.cells #[.int .u64 0] 124)).alloc (.cells #[.slice (some a) 1 cc] 36)).cell? (a.add i)=some (.int .u8 (((b.take 1).getD i 0).toNat:Int)):=fun i hi=>by
  obtain ⟨a',e',_,h2⟩:=hr.2 (by omega)
  cases e'
  have hib:i<b.length:=by omega
  have:=h2 i (.int .u8 ((b.getD i 0).toNat:Int)) (by unfold bl;rw [List.getElem?_map,List.getElem?_eq_getElem hib,List.getD_eq_getElem?_getD,List.getElem?_eq_getElem hib];rfl)
  rw [hW2.cell (p:=a.add i) (World.block_lt_of_cell? w _ this),this]
  congr 3
  rw [List.getD_eq_getElem?_getD,List.getD_eq_getElem?_getD,List.getElem?_take,if_pos (by omega)]
 have hst:=back_stops Fence.wide 2 trivial rfl (by omega) (w1.heap.size+1) w1.heap.size cc a (b.take 1) (by omega) _ (by simp) (by simp;omega) (Nat.lt_of_lt_of_le haw hb.size) (by
  have:=Blk.new (w1.alloc (.cells #[.int .u64 0] 124)) 36 #[.slice (some a) 1 cc]
  rw [hlen]
  have h:=this.cell 0
  simp) hcs
 have hKb:∀ (W:World) (l:Nat) (o o':Obj),w1.heap.size+1+1≤l→W.heap[l]?=some o→o.isCells=false→o.isWalk=false→KeepB w1.heap.size (w1.heap.size+1) W (W.putObj l o'):=fun W l o o' hl ho h1 h2 =>
  ⟨Below.mono (belowK_b (w:=w1) (Nat.le_refl _) W l o o' (by omega) ho h1 h2) (Nat.le_refl _),by
   have hlt:l<W.heap.size:=(Array.getElem?_eq_some_iff.1 ho).1
   simp [World.putObj,World.cell?,Array.getElem?_setIfInBounds,show l≠w1.heap.size+1 by omega]⟩
 have hAcc:=backN_all (b.take 1)
 rw [hlen] at hAcc
 refine' wpIn_rangeFunc_ownG rfl (by omega) (gf:=115) (lb:=#[.pointer (some ⟨w1.heap.size+1,0,none⟩)]) rfl trivial (enters_of Tryz.func115 (by kernel_rfl) rfl) hst keepB_t ?hkb (Below.refl _ _) (fun _=>rfl)
  (fun pre W=>(W.cell? ⟨w1.heap.size,0,none⟩=some (.int .u64 (accM pre:Nat))∧W.frozen? ⟨w1.heap.size,0,none⟩=false)∧Below w.heap.size w W)
  (fun _ _ _=>False) ?hi ?hix ?h0 _ ?assign ?body ?done ?stop
 case hkb=>exact fun W l o o' hl=>hKb W l o o' (by simpa using hl)
 case hi=>exact OwnFrom.and (Own.from (fun s A B row hs hg hr=>⟨cell_kept hs.1 hg hr,(frozen_kept hs.1 hg hr).trans hs.2⟩) _) (ownFrom_below (Nat.le_refl _) (by have:=hb.size;simp;omega))
 case hix=>exact fun _ _ _ _ _ hs _ _=>hs
 case h0 =>
  have bS:=Boxed.new w1 124 (.int .u64 0)
  exact ⟨⟨(bS.alloc _).cell,(bS.alloc _).frozen⟩,hW2⟩
 case assign =>
  intro l x W K hK
  gi_wp2
  exact hK
 case body =>
  rintro l pre x W ⟨⟨hca,hfa⟩,hBa⟩ hp
  have hv:=accM_step pre x
  gi_wp2
  exact ⟨(KeepsOthers.setCell _ _ _).from _,⟨(Below.refl w1.heap.size W).setCell (p:=⟨w1.heap.size,0,none⟩) (Nat.le_refl _) _,World.cell?_setCell_far _ _ _ _ (by simp)⟩,⟨by exact World.cell?_setCell_same' _ _ _ (by rw [hca];rfl),by rw [World.frozen?_setCell];exact hfa⟩,hBa.setCell (p:=⟨w1.heap.size,0,none⟩) hb.size _⟩
 case done =>
  rintro D ys W hD rfl ⟨⟨hca,_⟩,hBa⟩ hK
  gi_wp2
  refine ⟨by simp,.inl ⟨_,_,rfl,run_takeDeferred hK,?_⟩⟩
  refine ⟨_,results_tmp3 rfl _ _ _,?_,hBa.trans (belowK_b (w:=w) (Nat.le_refl _) W D _ _ (by have:=hb.size;simp at hD;omega) hK rfl rfl)⟩
  rw [←hAcc,←show accM _=accN _ from Nat.mod_eq_of_lt (by rw [hAcc];exact hbn)]
  rfl
 case stop =>
  rintro D c pre W _ _ h _
  exact h.elim
set_option maxHeartbeats 4000000 in
set_option maxRecDepth 100000 in
theorem VGet_ten {B:Nat} (a:Addr) (cc:Nat) (b:List UInt8) (w:World) (hB:B≤w.heap.size) (hr:Reads w B 1 (some a) b.length (bl b)) (hcap:b.length≤cc) (hl:10≤b.length) (hi:low (b.take 10) 0=some 9) (hy:(b.getD 9 0).toNat=1) :
 Calls Tryz.prog 92 #[.slice (some a) b.length cc] w fun e w'=>e=.returned (.tuple #[.int .u64 (backN (b.take 10):Nat),.int .i64 10,.int .i64 0])∧Below w.heap.size w w':=by
 have hl10:(b.take 10).length=10:=by rw [List.length_take];omega
 have hI:=LowIndex_any (some a) cc (b.take 10) (by rw [hl10];exact reads_take hr hl) hB (by omega)
 have e:lowI (b.take 10)=9:=by unfold lowI;rw [hi];rfl
 rw [e,hl10] at hI
 have hmin:min (b.length:Int) 10=10:=by omega
 have hc:w.cell? (a.add 9)=some (.int .u8 1):=by have:=reads_cell hr 9 (by omega);rw [hy] at this;exact this
 have haw:=reads_low hr (by omega)
 have hbn:=backN_fit10 b (by omega) (by omega)
 have b0:10≤cc:=by omega
 have hcw:∀ W,Below w.heap.size w W→W.cell? (a.add 9)=some (.int .u8 1):=fun W hW=>(hW.cell (World.block_lt_of_cell? w _ hc)).trans hc
 clear hi e hl10 hy
 refine (callsIn_wide (n:=3)).1 ?_
 refine callsIn_of_wp_marks Tryz.func92 rfl trivial ?_ rfl
 simp only [Tryz.ntmps92,List.size_toArray,List.length_cons,List.length_nil,Nat.reduceAdd,Nat.reduceSub,Array.replicate_succ,Array.replicate_zero,List.push_toArray,List.append_toArray,List.nil_append,List.cons_append]
 gi_wp2_with (first
  | (refine ⟨trivial,?_⟩;gi_at_call 108;refine (callsIn_wide.2 (back_go _ _ _ _)).mono ?_;rintro e w2 ⟨rfl,rfl⟩)
  | (refine ⟨trivial,?_⟩;gi_at_call 106;refine (callsIn_wide.2 hI).mono ?_;rintro e w1 ⟨rfl,hb⟩;have hcx:=hcw w1 hb;have hcz:w1.cell? ⟨a.block,a.off+9,none⟩=some (.int .u8 1):=(by simpa [Addr.add] using hcx)))
 have hlen:(b.take 10).length=10:=by rw [List.length_take];omega
 have hW2:Below w.heap.size w ((w1.alloc (.cells #[.int .u64 0] 124)).alloc (.cells #[.slice (some a) 10 cc] 36)):=(hb.alloc hb.size _).alloc (by have:=hb.size;simp;omega) _
 have hcs:∀ i,i<(b.take 10).length→((w1.alloc (.cells #[.int .u64 0] 124)).alloc (.cells #[.slice (some a) 10 cc] 36)).cell? (a.add i)=some (.int .u8 (((b.take 10).getD i 0).toNat:Int)):=fun i hi=>by
  obtain ⟨a',e',_,h2⟩:=hr.2 (by omega)
  cases e'
  have hib:i<b.length:=by omega
  have:=h2 i (.int .u8 ((b.getD i 0).toNat:Int)) (by unfold bl;rw [List.getElem?_map,List.getElem?_eq_getElem hib,List.getD_eq_getElem?_getD,List.getElem?_eq_getElem hib];rfl)
  rw [hW2.cell (p:=a.add i) (World.block_lt_of_cell? w _ this),this]
  congr 3
  rw [List.getD_eq_getElem?_getD,List.getD_eq_getElem?_getD,List.getElem?_take,if_pos (by omega)]
 have hst:=back_stops Fence.wide 2 trivial rfl (by omega) (w1.heap.size+1) w1.heap.size cc a (b.take 10) (by omega) _ (by simp) (by simp;omega) (Nat.lt_of_lt_of_le haw hb.size) (by
  have:=Blk.new (w1.alloc (.cells #[.int .u64 0] 124)) 36 #[.slice (some a) 10 cc]
  rw [hlen]
  have h:=this.cell 0
  simp) hcs
 have hKb:∀ (W:World) (l:Nat) (o o':Obj),w1.heap.size+1+1≤l→W.heap[l]?=some o→o.isCells=false→o.isWalk=false→KeepB w1.heap.size (w1.heap.size+1) W (W.putObj l o'):=fun W l o o' hl ho h1 h2 =>
  ⟨Below.mono (belowK_b (w:=w1) (Nat.le_refl _) W l o o' (by omega) ho h1 h2) (Nat.le_refl _),by
   have hlt:l<W.heap.size:=(Array.getElem?_eq_some_iff.1 ho).1
   simp [World.putObj,World.cell?,Array.getElem?_setIfInBounds,show l≠w1.heap.size+1 by omega]⟩
 have hAcc:=backN_all (b.take 10)
 rw [hlen] at hAcc
 refine' wpIn_rangeFunc_ownG rfl (by omega) (gf:=115) (lb:=#[.pointer (some ⟨w1.heap.size+1,0,none⟩)]) rfl trivial (enters_of Tryz.func115 (by kernel_rfl) rfl) hst keepB_t ?hkb (Below.refl _ _) (fun _=>rfl)
  (fun pre W=>(W.cell? ⟨w1.heap.size,0,none⟩=some (.int .u64 (accM pre:Nat))∧W.frozen? ⟨w1.heap.size,0,none⟩=false)∧Below w.heap.size w W)
  (fun _ _ _=>False) ?hi ?hix ?h0 _ ?assign ?body ?done ?stop
 case hkb=>exact fun W l o o' hl=>hKb W l o o' (by simpa using hl)
 case hi=>exact OwnFrom.and (Own.from (fun s A B row hs hg hr=>⟨cell_kept hs.1 hg hr,(frozen_kept hs.1 hg hr).trans hs.2⟩) _) (ownFrom_below (Nat.le_refl _) (by have:=hb.size;simp;omega))
 case hix=>exact fun _ _ _ _ _ hs _ _=>hs
 case h0 =>
  have bS:=Boxed.new w1 124 (.int .u64 0)
  exact ⟨⟨(bS.alloc _).cell,(bS.alloc _).frozen⟩,hW2⟩
 case assign =>
  intro l x W K hK
  gi_wp2
  exact hK
 case body =>
  rintro l pre x W ⟨⟨hca,hfa⟩,hBa⟩ hp
  have hv:=accM_step pre x
  gi_wp2
  exact ⟨(KeepsOthers.setCell _ _ _).from _,⟨(Below.refl w1.heap.size W).setCell (p:=⟨w1.heap.size,0,none⟩) (Nat.le_refl _) _,World.cell?_setCell_far _ _ _ _ (by simp)⟩,⟨by exact World.cell?_setCell_same' _ _ _ (by rw [hca];rfl),by rw [World.frozen?_setCell];exact hfa⟩,hBa.setCell (p:=⟨w1.heap.size,0,none⟩) hb.size _⟩
 case done =>
  rintro D ys W hD rfl ⟨⟨hca,_⟩,hBa⟩ hK
  gi_wp2
  refine ⟨by simp,.inl ⟨_,_,rfl,run_takeDeferred hK,?_⟩⟩
  refine ⟨_,results_tmp3 rfl _ _ _,?_,hBa.trans (belowK_b (w:=w) (Nat.le_refl _) W D _ _ (by have:=hb.size;simp at hD;omega) hK rfl rfl)⟩
  rw [←hAcc,←show accM _=accN _ from Nat.mod_eq_of_lt (by rw [hAcc];exact hbn)]
  rfl
 case stop =>
  rintro D c pre W _ _ h _
  exact h.elim
theorem VGet_all:VGetOK:=by
 intro B A cc b w hB hr hl hcap
 rw [getN_getV]
 unfold getV
 cases hi:low (b.take 10) 0 with
 | none =>
  by_cases h:b.length<10
  ·simp only [if_pos h]
   rw [List.take_of_length_le (by omega)] at hi
   exact VGet_short A cc b w hB hr hcap h hi
  ·simp only [if_neg h]
   exact VGet_wide A cc b w hB hr hcap (by omega) hi
 | some j =>
  have hj:=(low_ge _ _ _ hi).2
  rw [List.length_take] at hj
  obtain ⟨a,rfl,_,_⟩:=hr.2 (by omega)
  simp only [Nat.sub_zero]
  by_cases h1:j=9∧1<(b.getD j 0).toNat
  ·simp only [if_pos h1]
   obtain ⟨rfl,h1⟩:=h1
   exact VGet_nine a cc b w hB hr hcap (by omega) hi rfl h1
  simp only [if_neg h1]
  by_cases h2:0<j∧(b.getD j 0).toNat=0
  ·simp only [if_pos h2]
   exact VGet_form a cc _ j b w hB hr hcap rfl hi h2.1 h2.2
  simp only [if_neg h2]
  by_cases h3:j=0
  ·subst h3
   exact VGet_one a cc _ b w hB hr hcap rfl hi
  by_cases h4:j=9
  ·subst h4
   exact VGet_ten a cc b w hB hr hcap (by omega) hi (by omega)
  exact VGet_go a cc _ j _ b w hB hr hcap rfl hi (by omega) h4 rfl (by omega)
end
section
section
variable {P:Program} {ops:Array Oper} {Q:Exit→Act→World→Prop} {md:Region.Mode} {S S':World→Prop} {n:Nat}
theorem wpAnyE_mono (h:∀ w,S' w→S w):∀ (fuel:Nat) (listed:Array Bool) (a:Act) (w:World),wpAnyE P md ops Q S' n fuel listed a w→wpAnyE P md ops Q S n fuel listed a w
 | 0,_,_,_,H=>H
 | fuel+1,_,_,_,H=>⟨H.1,fun i hi=>wpOp_mono (fun a' w' h'=>⟨fun hin=>h _ (h'.1 hin),wpAnyE_mono h fuel _ a' w' h'.2⟩) (H.2 i hi)⟩
theorem Tl.step {listed:Array Bool} (T:Tl md ops n listed) (i:Nat) (hr:(Region.ready md ops listed).contains i=true) (hin:i<n):Tl md ops n (listed.setIfInBounds i true) :=
 ⟨T.sink,T.chain,T.lt,T.sel,T.inv.set (by simpa using hr) hin⟩
end
theorem step_callW {P:Program} {ops:Array Oper} {o:Oper} {a:Act} {w:World} {K:Act→World→Prop} {Q:Exit→Act→World→Prop} {E:Prop} (hw:Region.wanted o (yielded ops a.tmps)=true) (f:FuncId) (args:Array Value) (hrun:(execOp a.eval o).run P w=.ok (.enter f args) w)
 {R:Ending→World→Prop} (hc:Calls P f args w R) (hR:∀ e w',R e w'→∃ v,e=.returned v∧K (a.put o.dst v) w'):if Region.wanted o (yielded ops a.tmps)=true then Oper.wp P o a w K Q else E:=by
 rw [if_pos hw]
 unfold Oper.wp
 rw [hrun,Oper.upon_enter]
 refine hc.mono fun e w'' hh=>?_
 obtain ⟨v,rfl,hk⟩:=hR e w'' hh
 exact hk
end
section
open Go.RowKit
theorem reads_str {B:Nat} {W:World} {A:Option Addr} {c n:Nat} {b:List UInt8} (hr:Reads W B 1 A b.length (bl b)) (hn:b.length=n) {t:TypeId} (ht:Tryz.prog.underlying t=some .string):(convert 36 t (.slice A n c)).run Tryz.prog W=.ok (.string ⟨b.toArray⟩) W:=by
 subst hn
 cases A with
 | none =>
  have:b=[]:=by
   rcases b with _ | ⟨x,b⟩
   ·rfl
   ·obtain ⟨a,e,_⟩:=hr.2 (by simp)
    cases e
  subst this
  exact run_convert_bytes_nil W 36 5 Tryz.underlying36 Tryz.underlying5 0 c t ht
 | some a =>
  exact run_convert_bytes_back W 36 t 5 a c b Tryz.underlying36 Tryz.underlying5 ht (fun j hj=>by
   rw [reads_cell hr j hj,List.getD_eq_getElem?_getD,List.getElem?_eq_getElem hj]
   rfl)
theorem secs_get:∀ (n:Nat) (b:List UInt8) (k:Nat),k<n→(secs n b)[k]?=some ⟨((b.drop (64*k)).take 64).toArray⟩
 | 0,_,_,h=>by omega
 | n+1,b,0,_=>by simp [secs]
 | n+1,b,k+1,h=>by
  rw [secs,List.getElem?_cons_succ,secs_get n (b.drop 64) k (by omega),List.drop_drop]
  rw [show 64+64*k=64*(k+1) by omega]
theorem reads_rest {B:Nat} {w:World} {a:Addr} {b:List UInt8} (k c:Nat) (hr:Reads w B 1 (some a) b.length (bl b)) (hk:k≤b.length) (hc:b.length≤c):∃ a',(if c=k then some a else some (a.add k))=some a'∧Reads w B 1 (some a') (b.length-k) (bl (b.drop k)):=by
 by_cases h:c=k
 ·refine ⟨a,if_pos h,?_⟩
  have e:b.length-k=0:=by omega
  rw [e,List.drop_of_length_le (by omega)]
  exact ⟨rfl,fun h=>absurd h (by omega)⟩
 ·refine ⟨a.add k,if_neg h,?_⟩
  have:=reads_sub (k:=k) (n:=b.length-k) hr (by omega)
  rwa [List.take_of_length_le (by rw [List.length_drop];omega)] at this
set_option maxHeartbeats 4000000 in
set_option maxRecDepth 100000 in
theorem LSec_any {B:Nat} {w:World} {lb c:Nat} {A:Option Addr} {b:List UInt8} {last:ByteArray} {u:Int} (n:Nat) (hl:Blk w lb 114 #[.slice A b.length c,.string last,.int .i64 u]) (hlb:B≤lb) (hr:Reads w B 1 A b.length (bl b)) (hc:b.length≤c) (hn:n≤4096) (h64:64*n≤b.length) :
 Calls Tryz.prog 93 #[.pointer (some ⟨lb,0,none⟩),.int .i64 n] w fun e w'=>∃ v A' c',e=.returned v∧w'.ownsRow w.heap.size 101 1 v n (strs (secs n b))∧Blk w' lb 114 #[.slice A' (b.length-64*n) c',.string last,.int .i64 u]∧Reads w' B 1 A' (b.length-64*n) (bl (b.drop (64*n)))∧b.length-64*n≤c'∧Fr (·=lb) w w':=by
 obtain ⟨i0,hi0,hz0,hz1,hz2⟩:=info_parts Tryz.info101
 have hmk:=run_makeSlice (P:=Tryz.prog) w 99 101 i0 _ Tryz.underlying99 hi0 hz0 .i64 .i64 n n (by omega) (Int.le_refl _) (by rw [hz1];simp;omega) (by rw [hz2];omega) (by omega)
 rw [hz1] at hmk
 simp only [Int.toNat_natCast,Nat.mul_one] at hmk
 obtain ⟨cur,hcur⟩:∃ cur,madeCells (Value.string ByteArray.empty).cells n=cur:=⟨_,rfl⟩
 have hcs:cur.size=n:=by rw [←hcur];simp [madeCells,Value.cells]
 rw [hcur] at hmk
 have hb1:Blk (w.alloc (.cells cur 101)) w.heap.size 101 cur:=Blk.new w _ _
 have hf1:Fr (·=lb) w (w.alloc (.cells cur 101)):=Fr.of_below ((Below.refl _ _).alloc (Nat.le_refl _) _)
 have hlw:=hl.lt
 have hl1:Blk (w.alloc (.cells cur 101)) lb 114 #[.slice A b.length c,.string last,.int .i64 u]:=(Below.heap_alloc w _ _ hlw).trans hl
 have hsl:=secs_len n b
 have HW:=Lib.hid (And.intro hi0 (And.intro hz0 (And.intro hz1 hz2)))
 clear hi0 hz0 hz1 hz2 hcur
 go_enter Tryz.func93,Tryz.ntmps93
 go_wp2_with fail
 go_loopw [6,11] (fun _ i wr=>∃ (k:Nat) (A':Option Addr) (c':Nat) (cu:Array Value),k≤n∧i=.int .i64 k∧Blk wr lb 114 #[.slice A' (b.length-64*k) c',.string last,.int .i64 u]∧Reads w B 1 A' (b.length-64*k) (bl (b.drop (64*k)))∧b.length-64*k≤c'∧Blk wr w.heap.size 101 cu∧cu.size=n∧(∀ j s,j<k→(secs n b)[j]?=some s→cu[j]?=some (.string s))∧Fr (·=lb) w wr) (fun _ i _=>n-(intOf i).toNat)
 case atStart=>exact ⟨0,A,c,cur,Nat.zero_le _,rfl,hl1,hr,hc,hb1,hcs,fun j s hj=>by omega,hf1⟩
 case round =>
  obtain ⟨k,A',c',cu,hk,rfl,hlk,hrk,hck,hbk,hsk,huk,hfk⟩:=hrel
  by_cases hlt:k<n
  ·have d1:decide (k<n)=true:=by simpa using hlt
   obtain ⟨m,hm⟩:∃ m,b.length-64*k=m:=⟨_,rfl⟩
   have hml:(b.drop (64*k)).length=m:=by rw [List.length_drop];exact hm
   rw [hm] at hlk hrk hck
   have hm64:64≤m:=by omega
   obtain ⟨a,rfl⟩:∃ a,A'=some a:=by obtain ⟨a,e,_⟩:=hrk.2 (by omega);exact ⟨a,e⟩
   have hrk':Reads w B 1 (some a) (b.drop (64*k)).length (bl (b.drop (64*k))):=by rw [hml];exact hrk
   obtain ⟨a',ha',hra⟩:=reads_rest 64 c' hrk' (by omega) (by omega)
   have ha'':(if c'=64 then some a else some ⟨a.block,a.off+64,none⟩)=some a':=by simpa [Addr.add] using ha'
   obtain ⟨s,hs⟩:∃ s:ByteArray,(⟨((b.drop (64*k)).take 64).toArray⟩:ByteArray)=s:=⟨_,rfl⟩
   have hsk':=secs_get n b k hlt
   rw [hs] at hsk'
   have h64r:Reads w B 1 (some a) 64 (bl ((b.drop (64*k)).take 64)):=reads_take hrk' (by omega)
   have hcv:∀ W,Below B w W→(convert 36 101 (.slice (some a) 64 c')).run Tryz.prog W=.ok (.string s) W:=fun W hW=>by
    rw [←hs]
    have hl64:((b.drop (64*k)).take 64).length=64:=by rw [List.length_take];omega
    refine reads_str (B:=B) (b:=(b.drop (64*k)).take 64) ?_ hl64 Tryz.underlying101
    rw [hl64]
    exact h64r.below hW
   have c0:wr.cell? ⟨lb,0,none⟩=some (.slice (some a) m c'):=hlk.cell 0
   have i0:(0:Int)≤(k:Int):=by omega
   have i1:(k:Int)<(n:Int):=by omega
   have i2:(64:Int)≤(c':Int):=by omega
   have i3:(64:Int)≤(m:Int):=by omega
   have i4:64≤c':=by omega
   go_wp2_with fail
   have hBw:B≤w.heap.size:=Nat.le_trans hlb (Nat.le_of_lt hlw)
   have hgl:w.heap.size≠lb:=by omega
   have hBd:Below B w wr.drew:=(fr_below hfk (fun j hj=>by subst hj;exact hlb) hBw).drew
   have c0d:wr.drew.cell? ⟨lb,0,none⟩=some (.slice (some a) m c'):=c0
   have hcd:=hcv _ hBd
   have hfg:wr.drew.frozen? ⟨w.heap.size,k,none⟩=false:=hbk.frozen k
   obtain ⟨y,hy⟩:∃ y,cu[k]?=some y:=⟨_,Array.getElem?_eq_getElem (by omega)⟩
   have hgk:wr.cell? ⟨w.heap.size,k,none⟩=some y:=(hbk.cell k).trans hy
   obtain ⟨W1,hW1⟩:∃ W1,wr.drew.setCell ⟨w.heap.size,k,none⟩ (.string s)=W1:=⟨_,rfl⟩
   have hlk1:Blk W1 lb 114 #[.slice (some a) m c',.string last,.int .i64 u]:=by rw [←hW1];exact (Below.heap_setCell _ _ _ _ (fun e=>hgl e.symm)).trans hlk
   have c01:W1.cell? ⟨lb,0,none⟩=some (.slice (some a) m c'):=hlk1.cell 0
   have hf01:=hlk1.frozen 0
   have hB1:Below B w W1:=by rw [←hW1];exact hBd.setCell (p:=⟨w.heap.size,k,none⟩) hBw _
   have hc1:=hcv _ hB1
   refine regionE 18 (fun W0=>W0.cell? ⟨lb,0,none⟩=some (.slice (some a) m c')∧(convert 36 101 (.slice (some a) 64 c')).run Tryz.prog W0=.ok (.string s) W0) (by kernel_rfl) (by kernel_rfl) (by kernel_rfl) (by kernel_rfl) (by kernel_rfl) (⟨c0d,hcd⟩) (fun hHeld hTl=>?_)
   refine tkT 0 (v:=?_) hTl hHeld rfl ?_ (fun hTl=>?_);rotate_left
   ·intro w hSw;(try dsimp only at hSw);go_simp;all_goals with_reducible rfl
   try simp only [pT]
   refine tkT 1 (v:=?_) hTl hHeld rfl ?_ (fun hTl=>?_);rotate_left
   ·intro w hSw;(try dsimp only at hSw);go_simp;all_goals with_reducible rfl
   try simp only [pT]
   refine tkT 2 (v:=?_) hTl hHeld rfl ?_ (fun hTl=>?_);rotate_left
   ·intro w hSw;(try dsimp only at hSw);go_simp;all_goals with_reducible rfl
   try simp only [pT]
   refine tkT 3 (v:=?_) hTl hHeld rfl ?_ (fun hTl=>?_);rotate_left
   ·intro w hSw;(try dsimp only at hSw);go_simp;all_goals with_reducible rfl
   try simp only [pT]
   refine tkT 4 (v:=?_) hTl hHeld rfl ?_ (fun hTl=>?_);rotate_left
   ·intro w hSw;(try dsimp only at hSw);go_simp;all_goals with_reducible rfl
   try simp only [pT]
   refine tkT 5 (v:=?_) hTl hHeld rfl ?_ (fun hTl=>?_);rotate_left
   ·intro w hSw;(try dsimp only at hSw);go_simp;all_goals with_reducible rfl
   try simp only [pT]
   refine tkT 6 (v:=?_) hTl hHeld rfl ?_ (fun hTl=>?_);rotate_left
   ·intro w hSw;(try dsimp only at hSw);go_simp;all_goals with_reducible rfl
   try simp only [pT]
   refine tkT 7 (v:=?_) hTl hHeld rfl ?_ (fun hTl=>?_);rotate_left
   ·intro w hSw;(try dsimp only at hSw);go_simp;all_goals with_reducible rfl
   try simp only [pT]
   refine tkT 8 (v:=?_) hTl hHeld rfl ?_ (fun hTl=>?_);rotate_left
   ·intro w hSw;(try dsimp only at hSw);go_simp;all_goals with_reducible rfl
   try simp only [pT]
   refine tkT 9 (v:=?_) hTl hHeld rfl ?_ (fun hTl=>?_);rotate_left
   ·intro w hSw;(try dsimp only at hSw);go_simp;all_goals with_reducible rfl
   try simp only [pT]
   refine tkT 10 (v:=?_) hTl hHeld rfl ?_ (fun hTl=>?_);rotate_left
   ·intro w hSw;(try dsimp only at hSw);go_simp;all_goals with_reducible rfl
   try simp only [pT]
   refine tkT 11 (v:=?_) hTl hHeld rfl ?_ (fun hTl=>?_);rotate_left
   ·intro w hSw;(try dsimp only at hSw);go_simp;all_goals with_reducible rfl
   try simp only [pT]
   refine tkT 12 (v:=?_) hTl hHeld rfl ?_ (fun hTl=>?_);rotate_left
   ·intro w hSw;(try dsimp only at hSw);go_simp;all_goals with_reducible rfl
   try simp only [pT]
   refine tkT 13 (v:=?_) hTl hHeld rfl ?_ (fun hTl=>?_);rotate_left
   ·intro w hSw;(try dsimp only at hSw);go_simp;all_goals with_reducible rfl
   try simp only [pT]
   refine tkT 14 (v:=?_) hTl hHeld rfl ?_ (fun hTl=>?_);rotate_left
   ·intro w hSw;(try dsimp only at hSw);go_simp;all_goals with_reducible rfl
   try simp only [pT]
   clear hTl
   refine oneE 15 rfl (by kernel_rfl) (fun K hK=>?_)
   go_simp
   refine hK.out _ _ (fun _=>⟨c01,hc1⟩) ?_
   clear hK K
   try simp only [pT]
   refine oneE 16 rfl (by kernel_rfl) (fun K hK=>?_)
   go_simp
   refine hK.out _ _ (fun _=>⟨c01,hc1⟩) ?_
   clear hK K
   try simp only [pT]
   refine oneE 17 rfl (by kernel_rfl) (fun K hK=>?_)
   go_simp
   refine hK.out _ _ (fun _=>⟨c01,hc1⟩) ?_
   clear hK K
   try simp only [pT]
   refine oneE 18 rfl (by kernel_rfl) (fun K hK=>?_)
   go_simp
   refine hK.out _ _ (fun h=>absurd h (by decide)) ?_
   clear hK K
   try simp only [pT]
   refine doneE (by kernel_rfl) ?_ _
   go_wp2
   go_roundw
   case rel =>
    refine ⟨k+1,some a',c'-64,cu.setIfInBounds k (.string s),by omega,by go_num,?_,?_,by omega,?_,by simpa using hsk,?_,?_⟩
    ·rw [show b.length-64*(k+1)=m-64 by omega]
     have:=hlk1.set_ 0 (.slice (some a') (m-64) (c'-64))
     simpa using this
    ·rw [show b.length-64*(k+1)=(b.drop (64*k)).length-64 by rw [hml];omega,show 64*(k+1)=64*k+64 by omega,←List.drop_drop]
     exact hra
    ·refine (Below.heap_setCell _ _ _ _ hgl).trans ?_
     rw [←hW1]
     exact hbk.set_ k (.string s)
    ·intro j s' hj hj2
     rw [Array.getElem?_setIfInBounds]
     by_cases e:k=j
     ·subst e
      rw [hsk'] at hj2
      cases hj2
      rw [if_pos rfl,if_pos (by omega)]
     ·rw [if_neg e]
      exact huk j s' (by omega) hj2
    ·rw [←hW1]
     exact (hfk.drew.setCell (p:=⟨w.heap.size,k,none⟩) (.inl (Nat.le_refl _)) _).setCell (p:=⟨lb,0,none⟩) (.inr rfl) _
   case measure=>simp [intOf];omega
  ·have d1:decide (k<n)=false:=by simpa using hlt
   obtain rfl:k=n:=by omega
   have HE:=Lib.hid (And.intro hlk (And.intro hrk (And.intro hck (And.intro hbk hfk))))
   clear hlk hrk hck hbk hfk hmk
   go_wp2
   go_ret
   obtain ⟨h1,h2,h3,h4,h5⟩:=HE.out
   have hBw:B≤w.heap.size:=Nat.le_trans hlb (Nat.le_of_lt hlw)
   refine ⟨_,A',c',rfl,?_,h1,h2.below (fr_below h5 (fun j hj=>by subst hj;exact hlb) hBw),h3,h5⟩
   refine ⟨by unfold strs;rw [List.length_map,hsl];omega,.inr ⟨w.heap.size,k,cu,rfl,Nat.le_refl _,h4,Nat.le_refl _,by simp only [maxLen];omega,by omega,?_⟩⟩
   refine List.ext_getElem? fun j=>?_
   rw [List.getElem?_take]
   by_cases hj:j<k*1
   ·rw [if_pos hj]
    have hl':j<(secs k b).length:=by omega
    have:=huk j _ (by omega) (List.getElem?_eq_getElem hl')
    unfold strs
    rw [List.getElem?_map,List.getElem?_eq_getElem hl',Array.getElem?_toList,this]
    rfl
   ·rw [if_neg hj,List.getElem?_eq_none]
    unfold strs
    rw [List.length_map]
    omega
end
section
open Go.RowKit Go.Sort
theorem getB_len (b:List UInt8):(getB b).1.length≤b.length:=by
 unfold getB
 split
 ·simp
 ·split
  ·simp
  ·simp only [List.length_take,List.length_drop];omega
theorem own_str8 {W:World} {B n c:Nat} {A:Option Addr} {b:List UInt8} (hn:b.length=n) (h:W.ownsRow B 5 1 (.slice A n c) n (bl b)) {t:TypeId} (ht:Tryz.prog.underlying t=some .string):(convert 36 t (.slice A n c)).run Tryz.prog W=.ok (.string ⟨b.toArray⟩) W :=
 reads_str (by subst hn;exact Reads.of_own h) hn ht
theorem le_iff {a b:List UInt8}:(a<b∨a=b)↔a≤b:=by
 constructor
 ·rintro (h | h)
  ·exact List.le_of_lt h
  ·rw [h];exact List.le_refl _
 ·intro h
  by_cases e:a=b
  ·exact .inr e
  ·exact .inl (List.not_le.1 fun h2=>e (List.le_antisymm h h2))
theorem str_leq {a b:List UInt8} {s z:ByteArray} (hs:(⟨a.toArray⟩:ByteArray)=s) (hz:(⟨b.toArray⟩:ByteArray)=z) (W:World):(binOp .leq 9 (.string s) (.string z)).run Tryz.prog W=.ok (.bool (decide (a≤b))) W:=by
 have e1:s.toList=a:=by rw [←hs,ByteArray.toList_eq]
 have e2:z.toList=b:=by rw [←hz,ByteArray.toList_eq]
 have e3:(Op.bytesLess a b || a==b)=decide (a≤b):=by
  rw [Bool.eq_iff_iff,bytesLess_eq]
  simp only [Bool.or_eq_true,decide_eq_true_eq,beq_iff_eq]
  exact le_iff
 have h:binOp .leq 9 (.string s) (.string z)=pure (.bool (Op.bytesLess s.toList z.toList || s.toList==z.toList)):=by simp [binOp,Op.stringOp]
 rw [h,e1,e2,e3]
 rfl
section
variable {B:Nat} {w:World} {lb c:Nat} {A:Option Addr} {b last:List UInt8} {u:Int}
set_option maxHeartbeats 4000000 in
set_option maxRecDepth 100000 in
theorem LFile_head (hl:Blk w lb 114 #[.slice A b.length c,.string ⟨last.toArray⟩,.int .i64 u]) (hlb:B≤lb) (hr:Reads w B 1 A b.length (bl b)) (hc:b.length≤c) (h9:b.length≤900000)
 (ht:(getB b).2.2≠0∨nameOK ⟨(getB b).1.toArray⟩=false∨(getB b).1≤last) :
 Calls Tryz.prog 54 #[.pointer (some ⟨lb,0,none⟩)] w fun e w'=>e=.returned (.tuple #[.pointer none,.bool false])∧Fr (·=lb) w w':=by
 have hB:B≤w.heap.size:=Nat.le_trans hlb (Nat.le_of_lt hl.lt)
 have hG:=VGetB_of VGet_all A c b w hB hr (by omega) hc
 have hnl:(getB b).1.length≤900000:=Nat.le_trans (getB_len b) h9
 obtain ⟨⟨nm,n,e⟩,hg⟩:∃ g,getB b=g:=⟨_,rfl⟩
 rw [hg] at hG ht hnl
 dsimp only at hG ht hnl
 have c0:w.cell? ⟨lb,0,none⟩=some (.slice A b.length c):=hl.cell 0
 obtain ⟨s,hs⟩:∃ s:ByteArray,(⟨nm.toArray⟩:ByteArray)=s:=⟨_,rfl⟩
 obtain ⟨z,hz⟩:∃ z:ByteArray,(⟨last.toArray⟩:ByteArray)=z:=⟨_,rfl⟩
 have hN:=isName_any s (by rw [←hs];simp [ByteArray.size];omega)
 rw [hz] at hl
 have HL:=Lib.hid hl
 clear hl
 by_cases he:e=0
 ·subst he
  by_cases hk:nameOK s=true
  ·rw [hk] at hN
   have hle:nm≤last:=by
    rw [hs] at ht
    rcases ht with h | h | h
    ·exact absurd rfl h
    ·rw [hk] at h;cases h
    ·exact h
   have hleq:=fun W=>str_leq hs hz W
   rw [show decide (nm≤last)=true by simpa using hle] at hleq
   go_enter Tryz.func54,Tryz.ntmps54
   go_wp2_with (first
    | (go_at_call 91;refine hG.mono ?_;rintro e w1 ⟨v,rfl,ho,hb⟩;obtain ⟨A1,k1,rfl⟩:=own_formS ho;have hcv:=own_str8 rfl ho Tryz.underlying9;rw [hs] at hcv;have c1:w1.cell? ⟨lb,1,none⟩=some (.string z):=(show Blk w1 lb 114 _ from (hb.block lb HL.out.lt).trans HL.out).cell 1)
    | (go_at_call 71;refine (hN _).mono ?_;rintro e w8 ⟨rfl,rfl⟩))
   go_ret2
   exact ⟨rfl,Fr.of_below hb⟩
  ·have hk':nameOK s=false:=by simpa using hk
   rw [hk'] at hN
   go_enter Tryz.func54,Tryz.ntmps54
   go_wp2_with (first
    | (go_at_call 91;refine hG.mono ?_;rintro e w1 ⟨v,rfl,ho,hb⟩;obtain ⟨A1,k1,rfl⟩:=own_formS ho;have hcv:=own_str8 rfl ho Tryz.underlying9;rw [hs] at hcv;have c1:w1.cell? ⟨lb,1,none⟩=some (.string z):=(show Blk w1 lb 114 _ from (hb.block lb HL.out.lt).trans HL.out).cell 1)
    | (go_at_call 71;refine (hN _).mono ?_;rintro e w8 ⟨rfl,rfl⟩))
   go_ret2
   exact ⟨rfl,Fr.of_below hb⟩
 ·have d1:(e != 0)=true:=by simpa using he
  go_enter Tryz.func54,Tryz.ntmps54
  go_wp2_with (go_at_call 91;refine hG.mono ?_;rintro e w1 ⟨v,rfl,ho,hb⟩;obtain ⟨A1,k1,rfl⟩:=own_formS ho;have hcv:=own_str8 rfl ho Tryz.underlying9;rw [hs] at hcv)
  go_ret2
  exact ⟨rfl,Fr.of_below hb⟩
end
end
section
open Go.RowKit Go.Sort
section
variable {B:Nat} {w:World} {lb c:Nat} {A:Option Addr} {b last:List UInt8} {u:Int}
set_option maxHeartbeats 4000000 in
set_option maxRecDepth 100000 in
theorem LFile_tail (hl:Blk w lb 114 #[.slice A b.length c,.string ⟨last.toArray⟩,.int .i64 u]) (hlb:B≤lb) (hr:Reads w B 1 A b.length (bl b)) (hc:b.length≤c) (h9:b.length≤900000)
 (t1:(getB b).2.2=0) (t2:nameOK ⟨(getB b).1.toArray⟩=true) (t3:¬ (getB b).1≤last)
 (ht:(getN (b.drop (getB b).2.1)).2.2≠0∨4096<(getN (b.drop (getB b).2.1)).1∨(b.drop ((getB b).2.1+(getN (b.drop (getB b).2.1)).2.1)).length<64*(getN (b.drop (getB b).2.1)).1) :
 Calls Tryz.prog 54 #[.pointer (some ⟨lb,0,none⟩)] w fun e w'=>e=.returned (.tuple #[.pointer none,.bool false])∧Fr (·=lb) w w':=by
 have hB:B≤w.heap.size:=Nat.le_trans hlb (Nat.le_of_lt hl.lt)
 have hG:=VGetB_of VGet_all A c b w hB hr (by omega) hc
 have hnl:(getB b).1.length≤900000:=Nat.le_trans (getB_len b) h9
 obtain ⟨p1,p2,p3⟩:=putB_getB t1
 have hlw:=hl.lt
 obtain ⟨a,rfl⟩:∃ a,A=some a:=by obtain ⟨a,e,_⟩:=hr.2 (by omega);exact ⟨a,e⟩
 obtain ⟨⟨nm,n,e⟩,hg⟩:∃ g,getB b=g:=⟨_,rfl⟩
 rw [hg] at hG hnl p2 p3 t1 t2 t3 ht
 dsimp only at hG hnl p2 p3 t1 t2 t3 ht
 subst t1
 obtain ⟨a2,ha2,hr2⟩:=reads_rest n c hr p2 hc
 have hd2:(b.drop n).length=b.length-n:=List.length_drop ..
 have hG2:∀ W,Below B w W→_:=fun W hW=>VGet_all (B:=B) (some a2) (c-n) (b.drop n) W (Nat.le_trans hB hW.size) (by rw [hd2];exact hr2.below hW) (by omega) (by omega)
 rw [hd2] at hG2
 have hq:(getN (b.drop n)).2.2=0→(getN (b.drop n)).2.1≤b.length-n:=fun h=>by have:=(putN_getN h).2.1;omega
 have hq2:(getN (b.drop n)).2.2≠0→(getN (b.drop n)).2.1=0:=fun h=>(getF_err 10 0 (b.drop n) h).2
 obtain ⟨⟨N,k,e2⟩,hg2⟩:∃ g,getN (b.drop n)=g:=⟨_,rfl⟩
 rw [hg2] at hG2 hq hq2 ht
 dsimp only at hG2 hq hq2 ht
 have hkn:n+k≤b.length:=by
  by_cases h:e2=0
  ·have:=hq h;omega
  ·have:=hq2 h;omega
 obtain ⟨K,hK⟩:∃ K,n+k=K:=⟨_,rfl⟩
 rw [hK] at hkn ht
 obtain ⟨a3,ha3,hr3⟩:=reads_rest K c hr hkn hc
 rw [List.length_drop] at ht
 have c0:w.cell? ⟨lb,0,none⟩=some (.slice (some a) b.length c):=hl.cell 0
 obtain ⟨s,hs⟩:∃ s:ByteArray,(⟨nm.toArray⟩:ByteArray)=s:=⟨_,rfl⟩
 obtain ⟨z,hz⟩:∃ z:ByteArray,(⟨last.toArray⟩:ByteArray)=z:=⟨_,rfl⟩
 have hN:=isName_any s (by rw [←hs];simp [ByteArray.size];omega)
 rw [hz] at hl
 rw [hs] at t2
 rw [t2] at hN
 have hleq:=fun W=>str_leq hs hz W
 rw [show decide (nm≤last)=false by simpa using t3] at hleq
 have HL:=Lib.hid hl
 have HG2:=Lib.hid hG2
 have i0:(0:Int)≤(n:Int):=by omega
 have i1:(n:Int)≤(b.length:Int):=by omega
 have i2:n≤c:=by omega
 have hnk:IntKind.i64.wrap ((n:Int)+(k:Int))=(K:Nat):=by rw [IntKind.wrap_i64];omega
 have j0:(0:Int)≤(K:Int):=by omega
 have j1:(K:Int)≤(b.length:Int):=by omega
 have j2:K≤c:=by omega
 have key:((e2 != 0)=true)∨((e2 != 0)=false∧decide ((4096:Int)<(N:Int))=true)∨((e2 != 0)=false∧decide ((4096:Int)<(N:Int))=false∧IntKind.i64.wrap (N:Int)=(N:Nat)∧wrap64 ((N:Int)*64)=(N:Int)*64∧decide (((b.length-K:Nat):Int)<(N:Int)*64)=true):=by
  by_cases h1:e2=0
  ·by_cases h2:4096<N
   ·exact .inr (.inl ⟨by simpa using h1,by simp;omega⟩)
   ·refine .inr (.inr ⟨by simpa using h1,by simp;omega,by rw [IntKind.wrap_i64];omega,by simp only [wrap64];omega,?_⟩)
    have:b.length-K<64*N:=by
     rcases ht with h | h | h
     ·exact absurd h1 h
     ·exact absurd h h2
     ·exact h
    simp;omega
  ·exact .inl (by simpa using h1)
 clear hl hG2 t3 ht
 rcases key with d1 | ⟨d1,d2⟩ | ⟨d1,d2,d3,d5,d4⟩
 all_goals
  go_enter Tryz.func54,Tryz.ntmps54
  go_wp2_with (first
   | (go_at_call 91;refine hG.mono ?_;rintro e w1 ⟨v,rfl,ho,hb⟩;obtain ⟨A1,k1,rfl⟩:=own_formS ho;have hcv:=own_str8 rfl ho Tryz.underlying9;rw [hs] at hcv;have hl1:Blk w1 lb 114 _:=(hb.block lb HL.out.lt).trans HL.out;have c1:w1.cell? ⟨lb,1,none⟩=some (.string z):=hl1.cell 1;have f1:=hl1.frozen 1;have hl2:=hl1.set_ 1 (.string s);have c2:(w1.setCell ⟨lb,1,none⟩ (.string s)).cell? ⟨lb,0,none⟩=some (.slice (some a) b.length c):=hl2.cell 0;have hlw1:lb<(w1.setCell ⟨lb,1,none⟩ (.string s)).heap.size:=hl2.lt)
   | (go_at_call 71;refine (hN _).mono ?_;rintro e w8 ⟨rfl,rfl⟩)
   | (go_at_call 92;refine (HG2.out _ ((hb.mono hB).setCell (p:=⟨lb,1,none⟩) hlb _)).mono ?_;rintro e w3 ⟨rfl,hb3⟩;have hl3:Blk w3 lb 114 _:=(hb3.block lb hlw1).trans hl2;have c3:w3.cell? ⟨lb,0,none⟩=some (.slice (some a) b.length c):=hl3.cell 0;have f3:=hl3.frozen 0;have hl4:=hl3.set_ 0 (.slice (some a3) (b.length-K) (c-K));have c4:(w3.setCell ⟨lb,0,none⟩ (.slice (some a3) (b.length-K) (c-K))).cell? ⟨lb,0,none⟩=some (.slice (some a3) (b.length-K) (c-K)):=hl4.cell 0))
  go_ret2
  exact ⟨rfl,((Fr.of_below (X:=(·=lb)) hb).setCell (p:=⟨lb,1,none⟩) (.inr rfl) _ |>.trans (Fr.of_below (X:=(·=lb)) hb3) |>.setCell (p:=⟨lb,0,none⟩) (.inr rfl) _)⟩
end
end
section
open Go.RowKit Go.Sort
theorem own_keep {w2 w3:World} {B e size n:Nat} {v:Value} {xs:List Value} (h:w2.ownsRow B e size v n xs) (hb2:Below w2.heap.size w2 w3):w3.ownsRow B e size v n xs :=
 ⟨h.1,h.2.imp id fun ⟨g,cap,cur,e1,e2,e3,r⟩=>⟨g,cap,cur,e1,e2,(hb2.block g (Array.getElem?_eq_some_iff.1 e3).1).trans e3,r⟩⟩
def FileLd (B:Nat) (w:World) (lb:Nat) (u:Int) (x:Fl) (r:List UInt8) (e:Ending) (w':World):Prop :=
 ∃ f v0 v1 A' c',e=.returned (.tuple #[.pointer (some ⟨f,0,none⟩),.bool true])∧w.heap.size≤f∧Blk w' f 103 #[v0,v1]∧w'.ownsRow w.heap.size 101 1 v0 x.2.length (strs x.2)∧w'.ownsRow w.heap.size 101 1 v1 x.2.length (strs x.2)∧(∀ k,v0.ownBlock=some k→v1.ownBlock=some k→False) ∧
  Blk w' lb 114 #[.slice A' r.length c',.string ⟨x.1.toArray⟩,.int .i64 (u+(x.2.length:Nat))]∧Reads w' B 1 A' r.length (bl r)∧r.length≤c'∧Fr (·=lb) w w'
section
variable {B:Nat} {w:World} {lb c:Nat} {A:Option Addr} {b last:List UInt8} {u:Int}
set_option maxHeartbeats 4000000 in
set_option maxRecDepth 100000 in
theorem LFile_some (hl:Blk w lb 114 #[.slice A b.length c,.string ⟨last.toArray⟩,.int .i64 u]) (hlb:B≤lb) (hr:Reads w B 1 A b.length (bl b)) (hc:b.length≤c) (h9:b.length≤900000) (hu:0≤u∧u≤100000)
 (t1:(getB b).2.2=0) (t2:nameOK ⟨(getB b).1.toArray⟩=true) (t3:¬ (getB b).1≤last)
 (ht:(getN (b.drop (getB b).2.1)).2.2=0∧(getN (b.drop (getB b).2.1)).1≤4096∧64*(getN (b.drop (getB b).2.1)).1≤(b.drop ((getB b).2.1+(getN (b.drop (getB b).2.1)).2.1)).length) :
 Calls Tryz.prog 54 #[.pointer (some ⟨lb,0,none⟩)] w (FileLd B w lb u ((getB b).1,secs (getN (b.drop (getB b).2.1)).1 (b.drop ((getB b).2.1+(getN (b.drop (getB b).2.1)).2.1))) ((b.drop ((getB b).2.1+(getN (b.drop (getB b).2.1)).2.1)).drop (64*(getN (b.drop (getB b).2.1)).1))):=by
 have hB:B≤w.heap.size:=Nat.le_trans hlb (Nat.le_of_lt hl.lt)
 have hG:=VGetB_of VGet_all A c b w hB hr (by omega) hc
 have hnl:(getB b).1.length≤900000:=Nat.le_trans (getB_len b) h9
 obtain ⟨p1,p2,p3⟩:=putB_getB t1
 have hlw:=hl.lt
 obtain ⟨a,rfl⟩:∃ a,A=some a:=by obtain ⟨a,e,_⟩:=hr.2 (by omega);exact ⟨a,e⟩
 obtain ⟨⟨nm,n,e⟩,hg⟩:∃ g,getB b=g:=⟨_,rfl⟩
 rw [hg] at hG hnl p2 p3 t1 t2 t3 ht
 dsimp only at hG hnl p2 p3 t1 t2 t3 ht
 subst t1
 obtain ⟨a2,ha2,hr2⟩:=reads_rest n c hr p2 hc
 have hd2:(b.drop n).length=b.length-n:=List.length_drop ..
 have hG2:∀ W,Below B w W→_:=fun W hW=>VGet_all (B:=B) (some a2) (c-n) (b.drop n) W (Nat.le_trans hB hW.size) (by rw [hd2];exact hr2.below hW) (by omega) (by omega)
 rw [hd2] at hG2
 have hq:(getN (b.drop n)).2.2=0→(getN (b.drop n)).2.1≤b.length-n:=fun h=>by have:=(putN_getN h).2.1;omega
 have hq2:(getN (b.drop n)).2.2≠0→(getN (b.drop n)).2.1=0:=fun h=>(getF_err 10 0 (b.drop n) h).2
 obtain ⟨⟨N,k,e2⟩,hg2⟩:∃ g,getN (b.drop n)=g:=⟨_,rfl⟩
 rw [hg2] at hG2 hq hq2 ht
 dsimp only at hG2 hq hq2 ht
 have hkn:n+k≤b.length:=by
  by_cases h:e2=0
  ·have:=hq h;omega
  ·have:=hq2 h;omega
 obtain ⟨K,hK⟩:∃ K,n+k=K:=⟨_,rfl⟩
 rw [hK] at hkn ht
 obtain ⟨a3,ha3,hr3⟩:=reads_rest K c hr hkn hc
 rw [List.length_drop] at ht
 have c0:w.cell? ⟨lb,0,none⟩=some (.slice (some a) b.length c):=hl.cell 0
 obtain ⟨s,hs⟩:∃ s:ByteArray,(⟨nm.toArray⟩:ByteArray)=s:=⟨_,rfl⟩
 obtain ⟨z,hz⟩:∃ z:ByteArray,(⟨last.toArray⟩:ByteArray)=z:=⟨_,rfl⟩
 have hN:=isName_any s (by rw [←hs];simp [ByteArray.size];omega)
 rw [hz] at hl
 rw [hs] at t2
 rw [t2] at hN
 have hleq:=fun W=>str_leq hs hz W
 rw [show decide (nm≤last)=false by simpa using t3] at hleq
 have HL:=Lib.hid hl
 have HG2:=Lib.hid hG2
 have i0:(0:Int)≤(n:Int):=by omega
 have i1:(n:Int)≤(b.length:Int):=by omega
 have i2:n≤c:=by omega
 have hnk:IntKind.i64.wrap ((n:Int)+(k:Int))=(K:Nat):=by rw [IntKind.wrap_i64];omega
 have j0:(0:Int)≤(K:Int):=by omega
 have j1:(K:Int)≤(b.length:Int):=by omega
 have j2:K≤c:=by omega
 obtain ⟨hE,hN4,hN64⟩:=ht
 subst hE
 have d2:decide ((4096:Int)<(N:Int))=false:=by simp;omega
 have d3:IntKind.i64.wrap (N:Int)=(N:Nat):=by rw [IntKind.wrap_i64];omega
 have d5:wrap64 ((N:Int)*64)=(N:Int)*64:=by simp only [wrap64];omega
 have d4:decide (((b.length-K:Nat):Int)<(N:Int)*64)=false:=by simp;omega
 have hun:wrap64 (u+(N:Int))=u+(N:Int):=by simp only [wrap64];omega
 rw [hg]
 dsimp only
 rw [hg2]
 dsimp only
 rw [hK]
 obtain ⟨R,hR⟩:∃ R,(b.drop K).drop (64*N)=R:=⟨_,rfl⟩
 have hRl:(b.drop K).length-64*N=R.length:=by rw [←hR];simp only [List.length_drop]
 have hSl:=secs_len N (b.drop K)
 have hdK:(b.drop K).length=b.length-K:=List.length_drop ..
 have hS:∀ W,Blk W lb 114 #[.slice (some a3) (b.length-K) (c-K),.string s,.int .i64 (u+(N:Int))]→Reads W B 1 (some a3) (b.length-K) (bl (b.drop K))→Calls Tryz.prog 93 #[.pointer (some ⟨lb,0,none⟩),.int .i64 N] W fun e w'=>∃ v A' c',e=.returned v∧w'.ownsRow W.heap.size 101 1 v N (strs (secs N (b.drop K)))∧Blk w' lb 114 #[.slice A' R.length c',.string s,.int .i64 (u+(N:Int))]∧Reads w' B 1 A' R.length (bl R)∧R.length≤c'∧Fr (·=lb) W w':=fun W h1 h2=>by
  rw [←hdK] at h1 h2
  have h:=LSec_any N h1 hlb h2 (by rw [hdK];omega) hN4 (by rw [hdK];omega)
  rw [hRl,hR] at h
  exact h
 have hC:∀ (W:World) (A:Option Addr) (c:Nat) (B:Nat),W.ownsRow B 101 1 (.slice A N c) N (strs (secs N (b.drop K)))→Calls Tryz.prog 53 #[.slice A N c] W fun e w'=>∃ A' c',e=.returned (.slice A' N c')∧w'.ownsRow W.heap.size 101 1 (.slice A' N c') N (strs (secs N (b.drop K)))∧Below W.heap.size W w':=fun W A c B h=>by
  have h2:RowX (fun _=>True) W 101 1 (.slice A (secs N (b.drop K)).length c) (secs N (b.drop K)).length (strs (secs N (b.drop K))):=by rw [hSl];exact ⟨own_base h,fun _ _=>trivial⟩
  have h3:=Clone_row h2 (by rw [hSl];omega)
  rw [hSl] at h3
  exact h3
 have hdd:List.drop (64*N) (List.drop K b)=R:=hR
 obtain ⟨L,hL⟩:∃ L,secs N (b.drop K)=L:=⟨_,rfl⟩
 rw [hL] at hS hC hSl
 rw [hR,hL]
 have HR:=Lib.hid (And.intro hR (And.intro hRl (And.intro hSl (And.intro hr3 (And.intro hS hC)))))
 clear hR hRl hL hdd hS hC
 clear hl hG2 t3
 go_enter Tryz.func54,Tryz.ntmps54
 go_wp2_with (first
  | (go_at_call 91;refine hG.mono ?_;rintro e w1 ⟨v,rfl,ho,hb⟩;obtain ⟨A1,k1,rfl⟩:=own_formS ho;have hcv:=own_str8 rfl ho Tryz.underlying9;rw [hs] at hcv;have hl1:Blk w1 lb 114 _:=(hb.block lb HL.out.lt).trans HL.out;have c1:w1.cell? ⟨lb,1,none⟩=some (.string z):=hl1.cell 1;have f1:=hl1.frozen 1;have hl2:=hl1.set_ 1 (.string s);have c2:(w1.setCell ⟨lb,1,none⟩ (.string s)).cell? ⟨lb,0,none⟩=some (.slice (some a) b.length c):=hl2.cell 0;have hlw1:lb<(w1.setCell ⟨lb,1,none⟩ (.string s)).heap.size:=hl2.lt)
  | (go_at_call 71;refine (hN _).mono ?_;rintro e w8 ⟨rfl,rfl⟩)
  | (go_at_call 92;refine (HG2.out _ ((hb.mono hB).setCell (p:=⟨lb,1,none⟩) hlb _)).mono ?_;rintro e w3 ⟨rfl,hb3⟩;have hl3:Blk w3 lb 114 _:=(hb3.block lb hlw1).trans hl2;have c3:w3.cell? ⟨lb,0,none⟩=some (.slice (some a) b.length c):=hl3.cell 0;have f3:=hl3.frozen 0;have hl4:=hl3.set_ 0 (.slice (some a3) (b.length-K) (c-K));have c4:(w3.setCell ⟨lb,0,none⟩ (.slice (some a3) (b.length-K) (c-K))).cell? ⟨lb,0,none⟩=some (.slice (some a3) (b.length-K) (c-K)):=hl4.cell 0;have c32:w3.cell? ⟨lb,2,none⟩=some (.int .i64 u):=hl3.cell 2;have f32:=hl4.frozen 2;have hl5:Blk ((w3.setCell ⟨lb,0,none⟩ (.slice (some a3) (b.length-K) (c-K))).setCell ⟨lb,2,none⟩ (.int .i64 (u+(N:Int)))) lb 114 #[.slice (some a3) (b.length-K) (c-K),.string s,.int .i64 (u+(N:Int))]:=hl4.set_ 2 (.int .i64 (u+(N:Int)));have hF5:Fr (·=lb) w ((w3.setCell ⟨lb,0,none⟩ (.slice (some a3) (b.length-K) (c-K))).setCell ⟨lb,2,none⟩ (.int .i64 (u+(N:Int)))):=((((Fr.of_below (X:=(·=lb)) hb).setCell (p:=⟨lb,1,none⟩) (.inr rfl) _).trans (Fr.of_below (X:=(·=lb)) hb3)).setCell (p:=⟨lb,0,none⟩) (.inr rfl) _).setCell (p:=⟨lb,2,none⟩) (.inr rfl) _;have hB5:=fr_below hF5 (fun j hj=>by subst hj;exact hlb) hB)
  | (go_at_call 93;refine (HR.out.2.2.2.2.1 _ hl5 (HR.out.2.2.2.1.below hB5)).mono ?_;rintro e w6 ⟨v6,A6,c6,rfl,ho6,hl6,hr6,hc6,hf6⟩;obtain ⟨A7,c7,rfl⟩:=own_formN ho6)
  | (go_at_call 53;refine (HR.out.2.2.2.2.2 _ _ _ _ ho6).mono ?_;rintro e w8 ⟨A8,c8,rfl,ho8,hb8⟩))
 go_ret2
 subst hSl
 have hA8:Below w8.heap.size w8 (w8.alloc (.cells #[.slice A7 L.length c7,.slice A8 L.length c8] 103)):=(Below.refl _ w8).alloc (Nat.le_refl _) _
 have s5:=hF5.size
 have s6:=hf6.size
 have s8:=hb8.size
 have b8:Below w6.heap.size w6 (w8.alloc (.cells #[.slice A7 L.length c7,.slice A8 L.length c8] 103)):=hb8.trans (hA8.mono s8)
 refine ⟨w8.heap.size,.slice A7 L.length c7,.slice A8 L.length c8,A6,c6,rfl,by omega,Blk.new w8 _ _,own_le (own_keep ho6 b8) s5,own_le (own_keep ho8 hA8) (by omega),fun k h1 h2=>?_,?_,hr6.below (b8.mono (Nat.le_trans hB (Nat.le_trans s5 s6))),hc6,(hF5.trans hf6).trans (Fr.of_below b8)⟩
 ·have e1:=(ho6.lt k h1).2
  have e2:=(ho8.lt k h2).1
  omega
 ·show Blk _ lb 114 #[.slice A6 R.length c6,.string ⟨nm.toArray⟩,.int .i64 (u+(L.length:Nat))]
  rw [hs]
  exact (b8.block lb hl6.lt).trans hl6
end
end
section
open Go.RowKit Go.Sort
theorem dirF_append:∀ (k:Nat) (l:List Fl) (x:Fl),dirF k (l++[x])=dirF k l++[(⟨⟨x.1.toArray⟩,k+l.length⟩:En)]
 | k,[],x=>rfl
 | k,y::l,x=>by
  rw [List.cons_append,dirF,dirF_append (k+1) l x,dirF,List.length_cons]
  simp only [List.cons_append,List.cons.injEq,true_and]
  congr 2
  congr 1
  omega
theorem live_mkP {room:Int} {l:List Fl} {i:Nat}:i∈(mkP room l).live↔i<l.length:=by
 have e:(mkP room l).live=(dirF 0 l).map (·.id):=by unfold DP.live mkP;simp
 rw [e,List.mem_map]
 constructor
 ·rintro ⟨en,he,rfl⟩
  obtain ⟨j,x,h1,_,h3⟩:=dirF_mem 0 l en he
  have:=(List.getElem?_eq_some_iff.1 h1).1
  omega
 ·intro h
  have:=dirF_get 0 l i _ (List.getElem?_eq_getElem h)
  exact ⟨_,List.mem_of_getElem? this,by simp⟩
theorem file_mkP_at {room:Int} {l:List Fl} {i:Nat}:(mkP room l).file i=(l.map (·.2)).getD i []:=rfl
theorem FlOK.fresh {l:List Fl} {x:Fl} (h:FlOK (l++[x])):findP ⟨x.1.toArray⟩ (dirF 0 l)=none:=by
 cases hf:findP ⟨x.1.toArray⟩ (dirF 0 l) with
 | none=>rfl
 | some j =>
  obtain ⟨k,y,h1,h2,_⟩:=dirF_mem 0 _ _ (findP_mem hf)
  have e:x.1=y.1:=by
   have:=congrArg (fun z:ByteArray=>z.data.toList) h2
   simpa using this
  have hy:=List.mem_of_getElem? h1
  have:=(List.pairwise_append.1 h.up).2.2 y hy x (by simp)
  rw [e] at this
  exact absurd (List.le_refl _) this
section
variable {X:Nat→Prop} {w w':World} {db M1 M2 f:Nat} {v3 v4 u0 u1:Value} {q:DQ} {fs:List Nat} {V:Nat→Bool→Value} {C:Nat→Bool→List ByteArray} {fb:Nat→Nat} {room:Int} {l:List Fl} {x:Fl}
theorem PD.add (hfl:FlOK (l++[x])) (hr:0≤room∧room≤4096) (hXn:∀ k,w.heap.size≤k→X k) (hD:DiskV X w db M1 M2 v3 v4 q) (hF:FilesV X w fs V C) (ht:Tie fb fs C q (mkP room l))
 (hk:∀ (k:Nat) (cs:Array Value) (t:TypeId),FT t∨DT t→w.heap[k]?=some (.cells cs t (0,0))→w'.heap[k]?=some (.cells cs t (0,0)))
 (m1:w'.heap[M1]?=some (.map ((q.dir++[(⟨⟨x.1.toArray⟩,f,q.dck⟩:DE)]).map DE.ent).toArray (q.dck+1))) (m2:w'.heap[M2]?=some (.map ((q.now++[(⟨⟨x.1.toArray⟩,f,q.nck⟩:DE)]).map DE.ent).toArray (q.nck+1)))
 (hf:Blk w' f 103 #[u0,u1]) (hfw:w.heap.size≤f) (r0:w'.ownsRow w.heap.size 101 1 u0 x.2.length (strs x.2)) (r1:w'.ownsRow w.heap.size 101 1 u1 x.2.length (strs x.2)) (hne:∀ k,u0.ownBlock=some k→u1.ownBlock=some k→False) :
 PD X w' db (mkP room (l++[x])):=by
 have hwf:=mkP_wf hfl hr
 have hfresh:=hfl.fresh
 have hfs:∀ g∈fs,g<w.heap.size:=fun g hg=>(hF.blk g hg).lt
 have hfne:∀ g∈fs,g≠f:=fun g hg e=>by have:=hfs g hg;omega
 have lk1:lkF ⟨x.1.toArray⟩ q.dir=none:=by rw [ht.dir];show Option.map fb (findP _ (dirF 0 l))=none;rw [hfresh];rfl
 have lk2:lkF ⟨x.1.toArray⟩ q.now=none:=by rw [ht.now];show Option.map fb (findP _ (dirF 0 l))=none;rw [hfresh];rfl
 have own_lt:∀ g∈fs,∀ b k,(V g b).ownBlock=some k→k<w.heap.size:=fun g hg b k h=>(hF.row g hg b).lt h
 have own_ge0:∀ k,u0.ownBlock=some k→w.heap.size≤k:=fun k h=>(r0.lt k h).1
 have own_ge1:∀ k,u1.ownBlock=some k→w.heap.size≤k:=fun k h=>(r1.lt k h).1
 have hlook:∀ (es:List DE) (ck:Nat),(∀ y,lkF y es=(findP y (dirF 0 l)).map fb)→∀ y,lkF y (es++[(⟨⟨x.1.toArray⟩,f,ck⟩:DE)])=(findP y (dirF 0 (l++[x]))).map (fun i=>if i=l.length then f else fb i):=fun es ck he y=>by
  rw [lkF_append,dirF_append,findP_append,he,Nat.zero_add]
  cases hy:findP y (dirF 0 l) with
  | some i =>
   obtain ⟨k,z,h1,_,h3⟩:=dirF_mem 0 _ _ (findP_mem hy)
   have hlt:=(List.getElem?_eq_some_iff.1 h1).1
   have hi:i<l.length:=by have h3':i=0+k:=h3;omega
   simp [show i≠l.length by omega]
  | none =>
   by_cases e:(⟨x.1.toArray⟩:ByteArray)=y
   ·simp [e]
   ·simp [e]
 have hcases:∀ i∈(mkP room (l++[x])).live,i=l.length∨(i≠l.length∧i∈(mkP room l).live∧(mkP room (l++[x])).file i=(mkP room l).file i):=fun i hi=>by
  have h1:=live_mkP.1 hi
  rw [List.length_append,List.length_singleton] at h1
  by_cases e:i=l.length
  ·exact .inl e
  ·refine .inr ⟨e,live_mkP.2 (by omega),?_⟩
   rw [file_mkP_at,file_mkP_at,List.map_append,List.getD_eq_getElem?_getD,List.getD_eq_getElem?_getD,List.getElem?_append_left (by rw [List.length_map];omega)]
 have hlast:(mkP room (l++[x])).file l.length=x.2:=by
  rw [file_mkP_at,List.map_append,List.getD_eq_getElem?_getD,List.getElem?_append_right (by rw [List.length_map];omega),List.length_map,Nat.sub_self]
  rfl
 have hcont:∀ (l':List Fl) i,(mkP room l').cont i=(mkP room l').file i:=fun _ _=>rfl
 refine ⟨M1,M2,v3,v4,{q with dir:=q.dir++[(⟨⟨x.1.toArray⟩,f,q.dck⟩:DE)],dck:=q.dck+1,now:=q.now++[(⟨⟨x.1.toArray⟩,f,q.nck⟩:DE)],nck:=q.nck+1},f::fs,fun g b=>if g=f then (if b then u1 else u0) else V g b,fun g b=>if g=f then x.2 else C g b,fun i=>if i=l.length then f else fb i,?_,?_,?_⟩
 ·refine ⟨hk _ _ _ (.inr (.inl rfl)) hD.blk,m1,m2,hD.ne,hD.inX,hD.inX1,hD.inX2,ht.ok1.put lk1 f,ht.ok2.put lk2 f,hD.chs.keep (fun k cs _ _ h=>hk k cs _ (.inr (.inr (.inl rfl))) h) (fun _ h=>h),hD.wrs.keep (fun k cs _ _ h=>hk k cs _ (.inr (.inr (.inr rfl))) h) (fun _ h=>h)⟩
 ·refine ⟨fun g hg=>?_,fun g hg=>?_,fun g hg b=>?_,fun g hg g' hg' a b k h1 h2=>?_⟩
  ·rcases List.mem_cons.1 hg with rfl | hg
   ·simpa using hf
   ·simp only [if_neg (hfne g hg)]
    exact hk _ _ _ (.inl (.inl rfl)) (hF.blk g hg)
  ·rcases List.mem_cons.1 hg with rfl | hg
   ·exact hXn _ hfw
   ·exact hF.inX g hg
  ·rcases List.mem_cons.1 hg with rfl | hg
   ·simp only [if_true]
    cases b with
    | false=>exact RowX.of_own r0 (fun k h=>hXn _ (own_ge0 k h))
    | true=>exact RowX.of_own r1 (fun k h=>hXn _ (own_ge1 k h))
   ·simp only [if_neg (hfne g hg)]
    exact (hF.row g hg b).keep (fun k cs _ _ h=>hk k cs _ (.inl (.inr rfl)) h) (fun _ h=>h)
  ·rcases List.mem_cons.1 hg with rfl | hg1
   ·rcases List.mem_cons.1 hg' with rfl | hg2
    ·refine ⟨rfl,?_⟩
     simp only [if_true] at h1 h2
     cases a <;> cases b
     ·rfl
     ·exact (hne k h1 h2).elim
     ·exact (hne k h2 h1).elim
     ·rfl
    ·simp only [if_true,if_neg (hfne g' hg2)] at h1 h2
     have:=own_lt g' hg2 b k h2
     cases a
     ·have:=own_ge0 k h1;omega
     ·have:=own_ge1 k h1;omega
   ·rcases List.mem_cons.1 hg' with rfl | hg2
    ·simp only [if_true,if_neg (hfne g hg1)] at h1 h2
     have:=own_lt g hg1 a k h1
     cases b
     ·have:=own_ge0 k h2;omega
     ·have:=own_ge1 k h2;omega
    ·simp only [if_neg (hfne g hg1),if_neg (hfne g' hg2)] at h1 h2
     exact hF.inj g hg1 g' hg2 a b k h1 h2
 ·refine ⟨hwf,ht.arms,ht.ok1.put lk1 f,ht.ok2.put lk2 f,hlook _ _ ht.dir,hlook _ _ ht.now,ht.chs,ht.wrs,fun i hi j hj e=>?_,fun i hi=>?_,fun i hi=>?_,fun i hi=>?_⟩
  ·rcases hcases i hi with rfl | ⟨n1,l1,_⟩
   ·rcases hcases j hj with rfl | ⟨n2,l2,_⟩
    ·rfl
    ·simp only [if_true,if_neg n2] at e
     exact absurd e.symm (hfne _ (ht.mem j l2))
   ·rcases hcases j hj with rfl | ⟨n2,l2,_⟩
    ·simp only [if_true,if_neg n1] at e
     exact absurd e (hfne _ (ht.mem i l1))
    ·simp only [if_neg n1,if_neg n2] at e
     exact ht.inj i l1 j l2 e
  ·rcases hcases i hi with rfl | ⟨n1,l1,_⟩
   ·simp
   ·simp only [if_neg n1]
    exact List.mem_cons_of_mem _ (ht.mem i l1)
  ·rcases hcases i hi with rfl | ⟨n1,l1,e1⟩
   ·simp only [if_true]
    exact hlast.symm
   ·simp only [if_neg n1,if_neg (hfne _ (ht.mem i l1))]
    rw [e1]
    exact ht.cs i l1
  ·rw [hcont]
   rcases hcases i hi with rfl | ⟨n1,l1,e1⟩
   ·simp only [if_true]
    exact hlast.symm
   ·simp only [if_neg n1,if_neg (hfne _ (ht.mem i l1))]
    rw [e1,←hcont]
    exact ht.cn i l1
end
end
section
open Go.RowKit
theorem takeF_0 (last:List UInt8) (nf:Nat) (b:List UInt8):takeF last nf b=if 8≤nf then none else takeF last 0 b:=by
 unfold takeF
 by_cases h:8≤nf
 ·rw [if_pos h,if_pos (.inr (.inr (.inr h)))]
 ·rw [if_neg h]
  have e:((getB b).2.2≠0∨nameOK ⟨(getB b).1.toArray⟩=false∨(getB b).1≤last∨8≤nf)↔((getB b).2.2≠0∨nameOK ⟨(getB b).1.toArray⟩=false∨(getB b).1≤last∨8≤0):=by
   simp [h]
  by_cases h2:((getB b).2.2≠0∨nameOK ⟨(getB b).1.toArray⟩=false∨(getB b).1≤last∨8≤0)
  ·rw [if_pos h2,if_pos (e.2 h2)]
  ·rw [if_neg h2,if_neg (fun h3=>h2 (e.1 h3))]
structure LdOK (b:List UInt8) (ls:List Fl) (last b':List UInt8):Prop where
 fl:FlOK ls
 le:∀ y∈ls,y.1≤last
 eq:loadL 9 [] 0 b=(loadL (9-ls.length) last ls.length b').map (ls ++ ·)
section
variable {b b' last r:List UInt8} {ls:List Fl} {x:Fl}
theorem LdOK.start (b:List UInt8):LdOK b [] [] b:=⟨⟨by simp,fun x h=>(by cases h),List.Pairwise.nil⟩,fun y h=>(by cases h),by simp⟩
theorem LdOK.none (h:LdOK b ls last b') (hb:0<b'.length) (ht:takeF last 0 b'=none∨8≤ls.length):loadL 9 [] 0 b=none:=by
 rw [h.eq]
 obtain ⟨f,hf⟩:∃ f,9-ls.length=f+1:=⟨8-ls.length,by have:=h.fl.len;omega⟩
 rw [hf]
 cases b' with
 | nil=>simp at hb
 | cons c b' =>
  rw [loadL,takeF_0]
  by_cases h8:8≤ls.length
  ·rw [if_pos h8];rfl
  ·rw [if_neg h8,ht.resolve_right h8];rfl
theorem LdOK.next (h:LdOK b ls last b') (ht:takeF last 0 b'=some (x,r)) (h8:ls.length<8):LdOK b (ls++[x]) x.1 r∧r.length<b'.length:=by
 obtain ⟨e,t1,t2,_,t4,t5,t6⟩:=put_takeF ht
 refine ⟨⟨⟨by simp;omega,fun y hy=>?_,?_⟩,fun y hy=>?_,?_⟩,t6⟩
 ·rcases List.mem_append.1 hy with hy | hy
  ·exact h.fl.ok y hy
  ·obtain rfl:=List.mem_singleton.1 hy;exact ⟨t1,t4,t5⟩
 ·rw [List.pairwise_append]
  refine ⟨h.fl.up,List.pairwise_singleton _ _,fun y hy z hz=>?_⟩
  obtain rfl:=List.mem_singleton.1 hz
  exact fun hle=>t2 (List.le_trans hle (h.le y hy))
 ·rcases List.mem_append.1 hy with hy | hy
  ·exact List.le_trans (h.le y hy) (List.le_of_lt (List.not_le.1 t2))
  ·obtain rfl:=List.mem_singleton.1 hy;exact List.le_refl _
 ·rw [h.eq]
  obtain ⟨f,hf⟩:∃ f,9-ls.length=f+1:=⟨8-ls.length,by omega⟩
  rw [hf,List.length_append,List.length_singleton,show 9-(ls.length+1)=f by omega]
  cases b' with
  | nil=>simp at t6
  | cons c b' =>
   rw [loadL,takeF_0,if_neg (by omega),ht]
   simp only [Option.map_map]
   congr 1
   funext l
   simp
theorem LdOK.done (h:LdOK b ls last []):loadL 9 [] 0 b=some ls:=by
 rw [h.eq]
 have:loadL (9-ls.length) last ls.length []=some []:=by unfold loadL;rfl
 rw [this]
 simp
theorem sumF_append (l:List Fl) (x:Fl):sumF (l++[x])=sumF l+x.2.length:=by simp [sumF]
theorem FlOK.sum (h:FlOK ls):sumF ls≤32768:=by
 have:∀ l:List Fl,(∀ x∈l,x.2.length≤4096)→sumF l≤l.length*4096:=by
  intro l
  induction l with
  | nil=>intro _;simp [sumF]
  | cons x l ih =>
   intro hl
   have h1:=hl x List.mem_cons_self
   have h2:=ih (fun y hy=>hl y (List.mem_cons_of_mem _ hy))
   unfold sumF at h2 ⊢
   simp only [List.map_cons,List.sum_cons,List.length_cons]
   omega
 have h2:=this ls (fun x hx=>(h.ok x hx).2.1)
 have:=h.len
 omega
end
end
section
open Go.RowKit Go.Sort
def RLoadR (room:Int) (b:List UInt8) (w:World) (e:Ending) (w':World):Prop :=
 ((∃ rb y,loadP room b=(some y,0)∧e=.returned (.tuple #[.pointer (some ⟨rb,0,none⟩),.int .i64 0])∧RD (fun k=>w.heap.size≤k) w' rb y)∨(∃ k,loadP room b=(none,k)∧k≠0∧e=.returned (.tuple #[.pointer none,.int .i64 k])))∧Below w.heap.size w w'
def RLdRel (B:Nat) (room:Int) (b:List UInt8) (w0:World) (rb:Nat) (vb vl va:Value) (wr:World):Prop :=
 ∃ ls last b' A' c',LdOK b ls last b'∧b'.length≤900000∧RD (fun k=>B≤k∧k<wr.heap.size) wr rb (mkP room ls)∧vb=.slice A' b'.length c'∧vl=.string ⟨last.toArray⟩∧va=.int .i64 (sumF ls:Nat)∧Reads w0 B 1 A' b'.length (bl b')∧b'.length≤c'∧Below B w0 wr
def slN (v:Value):Nat:=match v with
 | .slice _ n _=>n
 | _=>0
theorem RD.lt {X:Nat→Prop} {w:World} {rb:Nat} {p:DP} (h:RD X w rb p):RD (fun k=>X k∧k<w.heap.size) w rb p:=by
 obtain ⟨vd,vc,vf,vw,V,L,W,hv⟩:=h.only
 exact ⟨vd,vc,vf,vw,V,L,W,hv.keep (fun k hk=>⟨hk.1,hk.2.lt⟩) Same.refl (KB.refl _)⟩
def RSRel (B:Nat) (w0 w4:World) (xb:Nat) (ID:Int) (b3:List UInt8) (N:Nat) (vb vi:Value) (wr:World):Prop :=
 ∃ (k:Nat) (A':Option Addr) (c':Nat) (Av:Option Addr) (cv:Nat) (S:List (ByteArray × Value)),k≤N∧vi=.int .i64 (k:Nat)∧vb=.slice A' (b3.length-64*k) c'∧Reads w0 B 1 A' (b3.length-64*k) (bl (b3.drop (64*k)))∧b3.length-64*k≤c'∧S.length=k∧S.map (·.1)=(secs N b3).take k∧(∀ y∈S,SecW wr y.2 y.1)∧Blk wr xb 111 #[.int .i64 ID,.slice Av k cv]∧wr.ownsRow w4.heap.size 36 1 (.slice Av k cv) k (S.map (·.2))∧Fr (·=xb) w4 wr
theorem own_grown {w w':World} {B e size n:Nat} {v:Value} {xs:List Value} {row:Option Nat} (h:w.ownsRow B e size v n xs) (hg:w.grownBy w' row) (hr:∀ k,row=some k→k<B):w'.ownsRow B e size v n xs :=
 ⟨h.1,h.2.imp id fun ⟨g,cap,cur,e1,e2,e3,r⟩=>⟨g,cap,cur,e1,e2,(hg.block g (Array.getElem?_eq_some_iff.1 e3).1 (fun e=>by have:=hr g e.symm;omega)).trans e3,r⟩⟩
theorem rowx_up {X X':Nat→Prop} {w:World} {e size n:Nat} {v:Value} {xs:List Value} (h:RowX X w e size v n xs) (hX:∀ k,X k→X' k):RowX X' w e size v n xs:=⟨h.1,fun k hk=>hX k (h.2 k hk)⟩
theorem row_set_own {w:World} {B e size n g o:Nat} {v u:Value} {xs:List Value} {t:TypeId} {cs:Array Value} (hb:Blk w g t cs) (he:t≠e) (h:w.ownsRow B e size v n xs):(w.setCell ⟨g,o,none⟩ u).ownsRow B e size v n xs:=by
 have h2:=row_set (X:=fun _=>True) (o:=o) (u:=u) hb he ⟨own_base h,fun _ _=>trivial⟩
 refine ⟨h.1,?_⟩
 rcases h.2 with h3 | ⟨k,cap,cur,e1,e2,e3,r⟩
 ·exact .inl h3
 ·refine .inr ⟨k,cap,cur,e1,e2,?_,r⟩
  refine (Below.heap_setCell _ _ _ _ (fun e4=>?_)).trans e3
  have e5:k=g:=e4
  subst e5
  unfold Blk at hb
  rw [hb] at e3
  cases e3
  exact he rfl
set_option maxHeartbeats 16000000 in
set_option maxRecDepth 100000 in
theorem RLoad_0 {room:Int} (hr:0≤room∧room≤4096) {A:Option Addr} {c:Nat} {b:List UInt8} {w:World} (hrd:Reads w w.heap.size 1 A b.length (bl b)) (hc:b.length≤c) (h9:b.length≤900000) :
 Calls Tryz.prog 21 #[.int .i64 room,.slice A b.length c] w (RLoadR room b w):=by
 go_enter Tryz.func21,Tryz.ntmps21
 go_wp2_with (go_at_call 10;refine (rnew_go w hr).mono ?_;rintro e w1 ⟨⟨rb,rfl,hP⟩,hb1⟩)
 have hP1:=hP.lt
 clear hP
 go_loopw [1,8,9,10,11,12,13,14,15,16,17] (fun vb vl va _ _ _ _ _ _ _ _ wr=>RLdRel w.heap.size room b w rb vb vl va wr) (fun vb _ _ _ _ _ _ _ _ _ _ wr=>slN vb)
 case atStart=>exact ⟨[],[],b,A,c,LdOK.start b,h9,hP1,rfl,rfl,rfl,hrd,hc,hb1⟩
 case round =>
  clear hP1 hb1
  obtain ⟨ls,last,b',A',c',hL,h9',hP,rfl,rfl,rfl,hR,hc',hB⟩:=hrel
  obtain ⟨wo,rfl⟩:∃ wo,wo=wr:=⟨wr,rfl⟩
  have hsum:=hL.fl.sum
  have hRo:Reads wo w.heap.size 1 A' b'.length (bl b'):=hR.below hB
  have hBs:=hB.size
  have hlen8:=hL.fl.len
  by_cases h0:0<b'.length
  ·have d1:decide ((0:Int)<(b'.length:Int))=true:=by simp;omega
   have d1':decide (0<b'.length)=true:=by simpa using h0
   have hG:=RNGetB_any A' c' b' wo hBs hRo h9' hc'
   have hnl:(getB b').1.length≤900000:=Nat.le_trans (getB_len b') h9'
   by_cases hh:(getB b').2.2≠0∨nameOK ⟨(getB b').1.toArray⟩=false∨(getB b').1≤last∨8≤ls.length
   ·have hX:loadP room b=(none,44):=by
     unfold loadP
     rw [if_neg (by omega),hL.none h0 (by
      by_cases h8:8≤ls.length
      ·exact .inr h8
      ·refine .inl ?_
       unfold takeF
       rw [if_pos]
       rcases hh with h | h | h | h
       ·exact .inl h
       ·exact .inr (.inl h)
       ·exact .inr (.inr (.inl h))
       ·exact absurd h h8)]
    obtain ⟨⟨nm,n,e⟩,hg⟩:∃ g,getB b'=g:=⟨_,rfl⟩
    rw [hg] at hG hh hnl
    dsimp only at hG hh hnl
    obtain ⟨s,hs⟩:∃ s:ByteArray,(⟨nm.toArray⟩:ByteArray)=s:=⟨_,rfl⟩
    obtain ⟨z,hz⟩:∃ z:ByteArray,(⟨last.toArray⟩:ByteArray)=z:=⟨_,rfl⟩
    have hN:=RName_any s (by rw [←hs];simp [ByteArray.size];omega)
    have hleq:=fun W=>str_leq hs hz W
    obtain ⟨vd,vc,vf,vw,V,L,W,hv⟩:=hP
    obtain ⟨Af,cf,rfl⟩:=hv.fl.form
    have c3:∀ W,Below wo.heap.size wo W→W.cell? ⟨rb,3,none⟩=some (.slice Af ls.length cf):=fun W hW=>by
     have:=(hv.below hW).blk.cell 3
     rw [show (mkP room ls).files.length=ls.length from List.length_map ..] at this
     exact this
    rw [hz]
    rw [hs] at hh
    have key:((e != 0)=true)∨((e != 0)=false∧nameOK s=false)∨((e != 0)=false∧nameOK s=true∧decide (nm≤last)=true)∨((e != 0)=false∧nameOK s=true∧decide (nm≤last)=false∧decide ((8:Int)≤(ls.length:Int))=true):=by
     by_cases k1:e=0
     ·by_cases k2:nameOK s=true
      ·by_cases k3:nm≤last
       ·exact .inr (.inr (.inl ⟨by simpa using k1,k2,by simpa using k3⟩))
       ·refine .inr (.inr (.inr ⟨by simpa using k1,k2,by simpa using k3,?_⟩))
        have:8≤ls.length:=by
         rcases hh with h | h | h | h
         ·exact absurd k1 h
         ·rw [k2] at h;cases h
         ·exact absurd h k3
         ·exact h
        simp;omega
      ·exact .inr (.inl ⟨by simpa using k1,by simpa using k2⟩)
     ·exact .inl (by simpa using k1)
    have HH:=Lib.hid (And.intro hX (And.intro hB c3))
    clear hX hB hL hR hRo hv c3 hh
    rcases key with k1 | ⟨k1,k2⟩ | ⟨k1,k2,k3⟩ | ⟨k1,k2,k3,k4⟩
    all_goals
     try rw [k2] at hN
     try rw [k3] at hleq
     go_wp2_with (first
      | (go_at_call 67;refine hG.mono ?_;rintro e w2 ⟨v,rfl,ho,hb2⟩;obtain ⟨A1,k1,rfl⟩:=own_formS ho;have hcv:=own_str8 rfl ho Tryz.underlying9;rw [hs] at hcv;have c3:=HH.out.2.2 w2 hb2)
      | (go_at_call 68;refine (hN _).mono ?_;rintro e w8 ⟨rfl,rfl⟩))
     go_ret2
     obtain ⟨hX,hB,_⟩:=HH.out
     exact ⟨.inr ⟨44,hX,by decide,rfl⟩,hB.trans (hb2.mono hBs)⟩
   ·simp only [not_or,Bool.not_eq_false,Decidable.not_not] at hh
    obtain ⟨t1,t2,t3,t8⟩:=hh
    have hT0:takeF last 0 b'=if (getN (b'.drop (getB b').2.1)).2.2≠0∨4096<(getN (b'.drop (getB b').2.1)).1∨(b'.drop ((getB b').2.1+(getN (b'.drop (getB b').2.1)).2.1)).length<64*(getN (b'.drop (getB b').2.1)).1 then none
     else some (((getB b').1,secs (getN (b'.drop (getB b').2.1)).1 (b'.drop ((getB b').2.1+(getN (b'.drop (getB b').2.1)).2.1))),(b'.drop ((getB b').2.1+(getN (b'.drop (getB b').2.1)).2.1)).drop (64*(getN (b'.drop (getB b').2.1)).1)):=by
     unfold takeF
     rw [if_neg (by simp only [not_or,Bool.not_eq_false,Decidable.not_not];exact ⟨t1,t2,t3,by omega⟩)]
    obtain ⟨p1,p2,p3⟩:=putB_getB t1
    clear p1
    obtain ⟨a,rfl⟩:∃ a,A'=some a:=by obtain ⟨a,e,_⟩:=hR.2 (by omega);exact ⟨a,e⟩
    obtain ⟨⟨nm,n,e⟩,hg⟩:∃ g,getB b'=g:=⟨_,rfl⟩
    rw [hg] at hG hnl p2 p3 t1 t2 t3 hT0
    dsimp only at hG hnl p2 p3 t1 t2 t3 hT0
    subst t1
    obtain ⟨a2,ha2,hr2⟩:=reads_rest n c' hR p2 hc'
    have hd2:(b'.drop n).length=b'.length-n:=List.length_drop ..
    have hG2:∀ W,Below w.heap.size w W→_:=fun W hW=>RNGet_any (B:=w.heap.size) (some a2) (c'-n) (b'.drop n) W hW.size (by rw [hd2];exact hr2.below hW) (by omega)
    rw [hd2] at hG2
    have hq:(getN (b'.drop n)).2.2=0→(getN (b'.drop n)).2.1≤b'.length-n:=fun h=>by have:=(putN_getN h).2.1;omega
    have hq2:(getN (b'.drop n)).2.2≠0→(getN (b'.drop n)).2.1=0:=fun h=>(getF_err 10 0 (b'.drop n) h).2
    obtain ⟨⟨N,k,e2⟩,hg2⟩:∃ g,getN (b'.drop n)=g:=⟨_,rfl⟩
    rw [hg2] at hG2 hq hq2 hT0
    dsimp only at hG2 hq hq2 hT0
    have hkn:n+k≤b'.length:=by
     by_cases h:e2=0
     ·have:=hq h;omega
     ·have:=hq2 h;omega
    obtain ⟨K,hK⟩:∃ K,n+k=K:=⟨_,rfl⟩
    rw [hK] at hkn hT0
    obtain ⟨a3,ha3,hr3⟩:=reads_rest K c' hR hkn hc'
    rw [List.length_drop] at hT0
    obtain ⟨s,hs⟩:∃ s:ByteArray,(⟨nm.toArray⟩:ByteArray)=s:=⟨_,rfl⟩
    obtain ⟨z,hz⟩:∃ z:ByteArray,(⟨last.toArray⟩:ByteArray)=z:=⟨_,rfl⟩
    have hN:=RName_any s (by rw [←hs];simp [ByteArray.size];omega)
    rw [hs] at t2
    rw [t2] at hN
    have hleq:=fun W=>str_leq hs hz W
    rw [show decide (nm≤last)=false by simpa using t3] at hleq
    rw [hz]
    have k4:decide ((8:Int)≤(ls.length:Int))=false:=by simp;omega
    have i0:(0:Int)≤(n:Int):=by omega
    have i1:(n:Int)≤(b'.length:Int):=by omega
    have i2:n≤c':=by omega
    have hnk:IntKind.i64.wrap ((n:Int)+(k:Int))=(K:Nat):=by rw [IntKind.wrap_i64];omega
    have j0:(0:Int)≤(K:Int):=by omega
    have j1:(K:Int)≤(b'.length:Int):=by omega
    have j2:K≤c':=by omega
    have hrel8:ls.length<8:=by omega
    have hfm:(mkP room ls).files.length=ls.length:=List.length_map ..
    obtain ⟨vd,vc,vf,vw,V,L,W,hv⟩:=hP
    obtain ⟨Af,cf,hvf⟩:=hv.fl.form
    rw [hfm] at hvf
    subst hvf
    have c3:∀ W,Below wo.heap.size wo W→W.cell? ⟨rb,3,none⟩=some (.slice Af ls.length cf):=fun W hW=>(hv.below hW).blk.cell 3
    by_cases ht:e2≠0∨4096<N∨b'.length-K<64*N
    ·have hX:loadP room b=(none,44):=by
      unfold loadP
      rw [if_neg (by omega),hL.none h0 (.inl (by rw [hT0,if_pos ht]))]
     have key:((e2 != 0)=true)∨((e2 != 0)=false∧decide ((4096:Int)<(N:Int))=true)∨((e2 != 0)=false∧decide ((4096:Int)<(N:Int))=false∧IntKind.i64.wrap (N:Int)=(N:Nat)∧wrap64 ((N:Int)*64)=(N:Int)*64∧decide (((b'.length-K:Nat):Int)<(N:Int)*64)=true):=by
      by_cases h1:e2=0
      ·by_cases h2:4096<N
       ·exact .inr (.inl ⟨by simpa using h1,by simp;omega⟩)
       ·refine .inr (.inr ⟨by simpa using h1,by simp;omega,by rw [IntKind.wrap_i64];omega,by simp only [wrap64];omega,?_⟩)
        have:b'.length-K<64*N:=by
         rcases ht with h | h | h
         ·exact absurd h1 h
         ·exact absurd h h2
         ·exact h
        simp;omega
      ·exact .inl (by simpa using h1)
     have HH:=Lib.hid (And.intro hX (And.intro hB (And.intro c3 hG2)))
     clear hX hB hL hR hRo hv c3 hG2 ht hT0 hr2 hr3
     rcases key with x1 | ⟨x1,x2⟩ | ⟨x1,x2,x3,x5,x4⟩
     all_goals
      go_wp2_with (first
       | (go_at_call 67;refine hG.mono ?_;rintro e w2 ⟨v,rfl,ho,hb2⟩;obtain ⟨A1,k1,rfl⟩:=own_formS ho;have hcv:=own_str8 rfl ho Tryz.underlying9;rw [hs] at hcv;have c3:=HH.out.2.2.1 w2 hb2)
       | (go_at_call 69;refine (HH.out.2.2.2 _ (HH.out.2.1.trans (hb2.mono hBs))).mono ?_;rintro e w3 ⟨rfl,hb3⟩)
       | (go_at_call 68;refine (hN _).mono ?_;rintro e w8 ⟨rfl,rfl⟩))
      go_ret2
      obtain ⟨hX,hB,_⟩:=HH.out
      have y2:=hB.trans (hb2.mono hBs)
      exact ⟨.inr ⟨44,hX,by decide,rfl⟩,y2.trans (hb3.mono y2.size)⟩
    ·simp only [not_or,Decidable.not_not] at ht
     obtain ⟨hE,hN4,hN64⟩:=ht
     rw [if_neg (by simp only [not_or,Decidable.not_not];exact ⟨hE,hN4,hN64⟩)] at hT0
     subst hE
     have x1:((0:Int) != 0)=false:=rfl
     have x2:decide ((4096:Int)<(N:Int))=false:=by simp;omega
     have x3:IntKind.i64.wrap (N:Int)=(N:Nat):=by rw [IntKind.wrap_i64];omega
     have x5:wrap64 ((N:Int)*64)=(N:Int)*64:=by simp only [wrap64];omega
     have x4:decide (((b'.length-K:Nat):Int)<(N:Int)*64)=false:=by simp;omega
     obtain ⟨R,hRe⟩:∃ R,(b'.drop K).drop (64*N)=R:=⟨_,rfl⟩
     rw [hRe] at hT0
     obtain ⟨hLn,hrl⟩:=hL.next hT0 hrel8
     have c5:∀ W,Below wo.heap.size wo W→W.cell? ⟨rb,5,none⟩=some (.int .i64 ls.length):=fun W hW=>by
      have:=(hv.below hW).blk.cell 5
      rw [hfm] at this
      exact this
     have HH:=Lib.hid (And.intro hLn (And.intro hB (And.intro c3 (And.intro hG2 (And.intro c5 (And.intro hv (And.intro hr3 (And.intro hRe hrl))))))))
     clear hLn hB hL hR hRo hv c3 hG2 hT0 hr2 hr3 c5 hRe
     go_wp2_with (first
      | (go_at_call 67;refine hG.mono ?_;rintro e w2 ⟨v,rfl,ho,hb2⟩;obtain ⟨A1,k1,rfl⟩:=own_formS ho;have hcv:=own_str8 rfl ho Tryz.underlying9;rw [hs] at hcv;have c3:=HH.out.2.2.1 w2 hb2)
      | (go_at_call 69;refine (HH.out.2.2.2.1 _ (HH.out.2.1.trans (hb2.mono hBs))).mono ?_;rintro e w3 ⟨rfl,hb3⟩;have hcv3:(convert 36 9 (.slice A1 nm.length k1)).run Tryz.prog w3=.ok (.string s) w3:=(by rw [←hs];exact own_str8 rfl (own_keep ho hb3) Tryz.underlying9);have c5:=HH.out.2.2.2.2.1 w3 (hb2.trans (hb3.mono hb2.size)))
      | (go_at_call 68;refine (hN _).mono ?_;rintro e w8 ⟨rfl,rfl⟩))
     have hb23:=hb2.trans (hb3.mono hb2.size)
     have hA4:Below w3.heap.size w3 (w3.alloc (.cells #[.int .i64 ls.length,.slice none 0 0] 111)):=(Below.refl _ w3).alloc (Nat.le_refl _) _
     have hbx:=Blk.new w3 111 #[.int .i64 ls.length,.slice none 0 0]
     have hdK:(b'.drop K).length=b'.length-K:=List.length_drop ..
     have hs4:(w3.alloc (.cells #[.int .i64 ls.length,.slice none 0 0] 111)).heap.size=w3.heap.size+1:=by simp
     obtain ⟨w4,hw4⟩:∃ w4,w3.alloc (.cells #[.int .i64 ls.length,.slice none 0 0] 111)=w4:=⟨_,rfl⟩
     rw [hw4] at hA4 hbx hs4 ⊢
     have hB4:Below w.heap.size w w4:=(HH.out.2.1.trans (hb23.mono hBs)).trans (hA4.mono (Nat.le_trans hBs hb23.size))
     have hw3s:w.heap.size≤w3.heap.size:=Nat.le_trans hBs hb23.size
     have hr3':=HH.out.2.2.2.2.2.2.1
     clear hw4 hcv3 c5
     go_loopw [1,17] (fun vb vi wr=>RSRel w.heap.size w w4 w3.heap.size ls.length (b'.drop K) N vb vi wr) (fun _ vi _=>N-(intOf vi).toNat)
     case atStart=>exact ⟨0,some a3,c'-K,none,0,[],Nat.zero_le _,rfl,by rw [hdK];rfl,by rw [hdK];exact hr3',by omega,rfl,by simp,fun y hy=>(by cases hy),hbx,World.ownsRow_nil _ _ _ _,Fr.refl _ _⟩
     case round =>
      obtain ⟨k',A',c'',Av,cv,S,hk',rfl,rfl,hrk,hck,hSl,hSm,hSs,hbk,hok,hfk⟩:=hrel
      obtain ⟨wp,rfl⟩:∃ wp,wp=wr:=⟨wr,rfl⟩
      by_cases hlt:k'<N
      ·have d7:decide (k'<N)=true:=by simpa using hlt
       have d7':decide ((k':Int)<(N:Int))=true:=by simpa using hlt
       obtain ⟨m,hm⟩:∃ m,(b'.drop K).length-64*k'=m:=⟨_,rfl⟩
       have hml:((b'.drop K).drop (64*k')).length=m:=by rw [List.length_drop];exact hm
       rw [hm] at hrk hck ⊢
       have hm64:64≤m:=by omega
       obtain ⟨ax,rfl⟩:∃ a,A'=some a:=by obtain ⟨a,e,_⟩:=hrk.2 (by omega);exact ⟨a,e⟩
       have hrk':Reads w w.heap.size 1 (some ax) ((b'.drop K).drop (64*k')).length (bl ((b'.drop K).drop (64*k'))):=by rw [hml];exact hrk
       obtain ⟨ax',ha',hra⟩:=reads_rest 64 c'' hrk' (by omega) (by omega)
       have ha'':(if c''=64 then some ax else some ⟨ax.block,ax.off+64,none⟩)=some ax':=by simpa [Addr.add] using ha'
       obtain ⟨t,ht⟩:∃ t:ByteArray,(⟨(((b'.drop K).drop (64*k')).take 64).toArray⟩:ByteArray)=t:=⟨_,rfl⟩
       have htk:=secs_get N (b'.drop K) k' hlt
       rw [ht] at htk
       have htb:bl (((b'.drop K).drop (64*k')).take 64)=bytesOf t:=by rw [bytes_bl,←ht]
       have ht64:t.size=64:=by
        rw [←ht]
        simp only [ByteArray.size,List.size_toArray,List.length_take]
        omega
       have h64r:Reads w w.heap.size 1 (some ax) 64 (bytesOf t):=by rw [←htb];exact reads_take hrk' (by omega)
       have i2:(64:Int)≤(c'':Int):=by omega
       have i3:(64:Int)≤(m:Int):=by omega
       have i4:64≤c'':=by omega
       have hBp:Below w.heap.size w wp:=hB4.trans (fr_below hfk (fun j hj=>by subst hj;exact hw3s) hB4.size)
       have z4:=hfk.size
       have v1:wp.drew.cell? ⟨w3.heap.size,1,none⟩=some (.slice Av k' cv):=hbk.cell 1
       have hBE:Below wp.heap.size wp (wp.alloc (.cells #[] 5)).drew:=((Below.refl _ wp).alloc (Nat.le_refl _) _).drew
       have hpE:=h64r.below (hBp.trans (hBE.mono hBp.size))
       have bE:Blk (wp.alloc (.cells #[] 5)).drew w3.heap.size 111 _:=(hBE.block _ hbk.lt).trans hbk
       have HQ:=Lib.hid (And.intro hSm (And.intro hSs (And.intro htk (And.intro hra (And.intro hfk hBp)))))
       clear hSm hSs htk hra hBp hrk hrk' h64r ha' htb hfk ht
       go_wp2_with fail
       refine regionE 8 (fun W0=>W0.cell? ⟨w3.heap.size,1,none⟩=some (.slice Av k' cv)) (by kernel_rfl) (by kernel_rfl) (by kernel_rfl) (by kernel_rfl) (by kernel_rfl) (v1) (fun hHeld hTl=>?_)
       refine tkT 0 (v:=?_) hTl hHeld rfl ?_ (fun hTl=>?_);rotate_left
       ·intro w hSw;(try dsimp only at hSw);go_simp;all_goals with_reducible rfl
       try simp only [pT]
       refine tkT 1 (v:=?_) hTl hHeld rfl ?_ (fun hTl=>?_);rotate_left
       ·intro w hSw;(try dsimp only at hSw);go_simp;all_goals with_reducible rfl
       try simp only [pT]
       refine tkT 3 (v:=?_) hTl hHeld rfl ?_ (fun hTl=>?_);rotate_left
       ·intro w hSw;(try dsimp only at hSw);go_simp;all_goals with_reducible rfl
       try simp only [pT]
       refine tkT 4 (v:=?_) hTl hHeld rfl ?_ (fun hTl=>?_);rotate_left
       ·intro w hSw;(try dsimp only at hSw);go_simp;all_goals with_reducible rfl
       try simp only [pT]
       clear hTl
       refine oneE 2 rfl (by kernel_rfl) (fun K hK=>?_)
       go_simp
       refine hK.out _ _ (fun _=>bE.cell 1) ?_
       clear hK K
       try simp only [pT]
       refine oneE 5 rfl (by kernel_rfl) (fun K hK=>?_)
       refine step_push TBy (by rfl) (by rfl) wp.heap.size (by rfl) (own_emptyH wp 5 1 rfl (Nat.le_refl _)) (by rfl) hpE (bytesOf_one t) (by omega) (by simp) (Nat.zero_add _) (List.nil_append _) ?_
       intro A5 c5 w5 ho5 hg5 hl5;have hB5:Below wp.heap.size wp w5:=hBE.grown hg5 (by simp) (fun k e=>by cases e;exact Nat.le_refl _);have b5:Blk w5 w3.heap.size 111 _:=(hB5.block _ hbk.lt).trans hbk
       refine hK.out _ _ (fun _=>b5.cell 1) ?_
       clear hK K
       try simp only [pT]
       have hB6:Below wp.heap.size wp (w5.alloc (.cells #[.slice A5 64 c5] 36)):=hB5.alloc hB5.size _
       have b6:Blk (w5.alloc (.cells #[.slice A5 64 c5] 36)) w3.heap.size 111 _:=(hB6.block _ hbk.lt).trans hbk
       have ho6:=own_keep hok hB6
       refine oneE 6 rfl (by kernel_rfl) (fun K hK=>?_)
       go_simp
       refine hK.out _ _ (fun _=>b6.cell 1) ?_
       clear hK K
       try simp only [pT]
       refine oneE 7 rfl (by kernel_rfl) (fun K hK=>?_)
       refine step_push TSS (by rfl) (by rfl) w4.heap.size (by rfl) ho6 (by rfl) (reads_blk (cs:=#[.slice A5 64 c5]) (Blk.new w5 _ _) rfl) (fun u hu=>by obtain rfl:=List.mem_singleton.1 hu;rfl) (by omega) (Nat.le_trans z4 hB6.size) rfl (ys:=(S++[((t,.slice A5 64 c5):ByteArray × Value)]).map (·.2)) (by rw [List.map_append];rfl) ?_
       intro A7 c7 w7 ho7 hg7 hl7;have b7:Blk w7 w3.heap.size 111 _:=(hg7.block _ b6.lt (fun e=>by have:=(hok.lt _ e.symm).1;omega)).trans b6;have f7:=b7.frozen 1;have y7:=b7.cell 1
       refine hK.out _ _ (fun _=>b7.cell 1) ?_
       clear hK K
       try simp only [pT]
       refine oneE 8 rfl (by kernel_rfl) (fun K hK=>?_)
       go_simp
       refine hK.out _ _ (fun h=>absurd h (by decide)) ?_
       clear hK K
       try simp only [pT]
       refine oneE 9 rfl (by kernel_rfl) (fun K hK=>?_)
       go_simp
       refine hK.out _ _ (fun h=>absurd h (by decide)) ?_
       clear hK K
       try simp only [pT]
       refine doneE (by kernel_rfl) ?_ _
       go_wp2
       go_roundw
       case rel =>
        obtain ⟨hSm,hSs,htk,hra,hfk,hBp⟩:=HQ.out
        have hrow:RowX (fun _=>True) (w5.alloc (.cells #[.slice A5 64 c5] 36)) 36 1 (.slice Av k' cv) k' (S.map (·.2)):=⟨own_base ho6,fun _ _=>trivial⟩
        have kb67:KB (w5.alloc (.cells #[.slice A5 64 c5] 36)) w7:=kb_grown hrow hg7 (by decide)
        have kb7:KB w7 (w7.setCell ⟨w3.heap.size,1,none⟩ (.slice A7 (k'+1) c7)):=kb_set b7 (by decide)
        have kbA:KB w5 (w5.alloc (.cells #[.slice A5 64 c5] 36)):=KB.of_below ((Below.refl _ w5).alloc (Nat.le_refl _) _)
        refine ⟨k'+1,some ax',c''-64,A7,c7,S++[(t,.slice A5 64 c5)],by omega,by go_num,?_,?_,by omega,by rw [List.length_append,hSl];rfl,?_,fun y hy=>?_,?_,?_,?_⟩
        ·rw [show (b'.drop K).length-64*(k'+1)=m-64 by omega]
        ·rw [show (b'.drop K).length-64*(k'+1)=((b'.drop K).drop (64*k')).length-64 by rw [hml];omega,show 64*(k'+1)=64*k'+64 by omega,←List.drop_drop (i:=64) (j:=64*k')]
         exact hra
        ·rw [List.map_append,hSm,List.take_add_one,htk]
         rfl
        ·rcases List.mem_append.1 hy with hy | hy
         ·exact (hSs y hy).keep (((KB.of_below hB6).trans kb67).trans kb7)
         ·obtain rfl:=List.mem_singleton.1 hy
          exact (sec_own ht64 ho5).keep ((kbA.trans kb67).trans kb7)
        ·have:=b7.set_ 1 (.slice A7 (k'+1) c7)
         simpa using this
        ·exact row_set_own b7 (by decide) ho7
        ·exact ((hfk.trans (Fr.of_below hB6)).grown hg7 (fun k hk=>.inl (hok.lt k hk).1)).setCell (p:=⟨w3.heap.size,1,none⟩) (.inr rfl) _
       case measure=>simp [intOf];omega
      ·have d7:decide (k'<N)=false:=by simpa using hlt
       obtain rfl:k'=N:=by omega
       have d7':decide ((k':Int)<(k':Int))=false:=by simp
       have hSx:S.map (·.1)=secs k' (b'.drop K):=by rw [hSm,List.take_of_length_le (by rw [secs_len];omega)]
       have hun:wrap64 (((sumF ls:Nat):Int)+(k':Int))=((sumF ls:Nat):Int)+(k':Int):=by simp only [wrap64];omega
       have z4:=hfk.size
       have hBop:Below wo.heap.size wo wp:=(hb23.trans (hA4.mono hb23.size)).trans (fr_below hfk (fun j hj=>by subst hj;exact hb23.size) (Nat.le_trans hb23.size (by omega)))
       have hR0:=(HH.out.2.2.2.2.2.1.below hBop).n
       rw [hfm] at hR0
       obtain ⟨Ad,cd,hvd⟩:=hR0.dir.form
       rw [show (mkP room ls).dir.length=ls.length from dirF_len 0 ls] at hvd
       subst hvd
       have q3:wp.drew.cell? ⟨rb,3,none⟩=some (.slice Af ls.length cf):=hR0.blk.cell 3
       have x0:wp.drew.cell? ⟨w3.heap.size,0,none⟩=some (.int .i64 ls.length):=hbk.cell 0
       have x1':wp.drew.cell? ⟨w3.heap.size,1,none⟩=some (.slice Av k' cv):=hbk.cell 1
       have hAl:Below wp.heap.size wp (wp.alloc (.cells #[.int .i64 ls.length,.slice Av k' cv] 111)).drew:=((Below.refl _ wp).alloc (Nat.le_refl _) _).drew
       have hR4:=hR0.below hAl
       have bx4:Blk (wp.alloc (.cells #[.int .i64 ls.length,.slice Av k' cv] 111)).drew w3.heap.size 111 _:=(hAl.block _ hbk.lt).trans hbk
       go_wp2_with fail
       refine regionE 8 (fun W0=>W0.cell? ⟨rb,3,none⟩=some (.slice Af ls.length cf)∧W0.cell? ⟨w3.heap.size,0,none⟩=some (.int .i64 ls.length)∧W0.cell? ⟨w3.heap.size,1,none⟩=some (.slice Av k' cv)) (by kernel_rfl) (by kernel_rfl) (by kernel_rfl) (by kernel_rfl) (by kernel_rfl) (⟨q3,x0,x1'⟩) (fun hHeld hTl=>?_)
       refine tkT 0 (v:=?_) hTl hHeld rfl ?_ (fun hTl=>?_);rotate_left
       ·intro w hSw;(try dsimp only at hSw);go_simp;all_goals with_reducible rfl
       try simp only [pT]
       refine tkT 1 (v:=?_) hTl hHeld rfl ?_ (fun hTl=>?_);rotate_left
       ·intro w hSw;(try dsimp only at hSw);go_simp;all_goals with_reducible rfl
       try simp only [pT]
       refine tkT 2 (v:=?_) hTl hHeld rfl ?_ (fun hTl=>?_);rotate_left
       ·intro w hSw;(try dsimp only at hSw);go_simp;all_goals with_reducible rfl
       try simp only [pT]
       refine tkT 3 (v:=?_) hTl hHeld rfl ?_ (fun hTl=>?_);rotate_left
       ·intro w hSw;(try dsimp only at hSw);go_simp;all_goals with_reducible rfl
       try simp only [pT]
       refine tkT 4 (v:=?_) hTl hHeld rfl ?_ (fun hTl=>?_);rotate_left
       ·intro w hSw;(try dsimp only at hSw);go_simp;all_goals with_reducible rfl
       try simp only [pT]
       refine tkT 5 (v:=?_) hTl hHeld rfl ?_ (fun hTl=>?_);rotate_left
       ·intro w hSw;(try dsimp only at hSw);go_simp;all_goals with_reducible rfl
       try simp only [pT]
       clear hTl
       refine oneE 6 rfl (by kernel_rfl) (fun K hK=>?_)
       go_simp
       refine hK.out _ _ (fun _=>⟨hR4.blk.cell 3,bx4.cell 0,bx4.cell 1⟩) ?_
       clear hK K
       try simp only [pT]
       have hAl':Below wp.heap.size wp (wp.alloc (.cells #[.int .i64 ls.length,.slice Av k' cv] 111)):=(Below.refl _ wp).alloc (Nat.le_refl _) _
       have hfl4:=hR4.fl
       rw [hfm] at hfl4
       refine oneE 7 rfl (by kernel_rfl) (fun K hK=>?_)
       refine step_push TFl (by rfl) (by rfl) 0 (by rfl) hfl4.1 (by rfl) (reads_blk (cs:=#[.int .i64 ls.length,.slice Av k' cv]) (blk_drew (Blk.new wp _ _)) rfl) (fun u hu=>by simp only [List.mem_cons,List.not_mem_nil,or_false] at hu;rcases hu with rfl | rfl <;> rfl) (by omega) (Nat.zero_le _) rfl (ys:=flcells V ls.length++[.int .i64 ls.length,.slice Av k' cv]) rfl ?_
       intro A7 c7 w7 ho7 hg7 hl7;have b7:=blk_grown hR4.blk hg7 (blk_apart hR4.blk hfl4 (by decide)).symm;have y7:=b7.cell 3;have f7:=b7.frozen 3;have bx7:=blk_grown bx4 hg7 (fun e=>by have:=(hfl4.2 _ e).2;have:=hb23.size;omega)
       refine hK.out _ _ (fun _=>⟨b7.cell 3,bx7.cell 0,bx7.cell 1⟩) ?_
       clear hK K
       try simp only [pT]
       refine oneE 8 rfl (by kernel_rfl) (fun K hK=>?_)
       go_simp
       refine hK.out _ _ (fun h=>absurd h (by decide)) ?_
       clear hK K
       try simp only [pT]
       refine oneE 9 rfl (by kernel_rfl) (fun K hK=>?_)
       go_simp
       refine hK.out _ _ (fun h=>absurd h (by decide)) ?_
       clear hK K
       try simp only [pT]
       refine oneE 10 rfl (by kernel_rfl) (fun K hK=>?_)
       go_simp
       refine hK.out _ _ (fun h=>absurd h (by decide)) ?_
       clear hK K
       try simp only [pT]
       refine doneE (by kernel_rfl) ?_ _
       have z3:=hb23.size
       have kb47:KB (wp.alloc (.cells #[.int .i64 ls.length,.slice Av k' cv] 111)).drew w7:=kb_grown hfl4 hg7 (by decide)
       have kbp7:KB wp w7:=(KB.of_below hAl).trans kb47
       have hr7:RowX (fun k=>w.heap.size≤k) w7 111 2 (.slice A7 (ls.length+1) c7) (ls.length+1) (flcells V ls.length++[.int .i64 ls.length,.slice Av k' cv]):=rowx_up (push_own hfl4 (Nat.le_refl _) ho7 hl7) (fun k hk=>by
        rcases hk with h | h
        ·exact h.1
        ·have:=hAl.size;omega)
       have hok7:w7.ownsRow w4.heap.size 36 1 (.slice Av k' cv) k' (S.map (·.2)):=own_grown (own_keep hok hAl) hg7 (fun k e=>by have:=(hfl4.2 _ e).2;omega)
       have hR7:=hR4.pushFlS (X':=fun k=>w.heap.size≤k) (v':=.slice A7 (ls.length+1) c7) (vS:=.slice Av k' cv) (S:=S) (fun k h=>h.1) hg7 (by rw [hfm];exact hr7) (by rw [hSl];exact ⟨own_base hok7,fun k hk=>by have:=(hok7.lt k hk).1;omega⟩) (fun y hy=>(hSs y hy).keep kbp7) (fun i k hi h1 h2=>by
        have e1:=((hR4.row i hi).2 k h1).2
        have e2:=(hok7.lt k h2).1
        omega)
       have hs7:=hg7.size
       obtain ⟨W8,hW8⟩:∃ W,w7.setCell ⟨rb,3,none⟩ (.slice A7 (ls.length+1) c7)=W:=⟨_,rfl⟩
       have hs8:W8.heap.size=w7.heap.size:=by rw [←hW8];simp [World.setCell]
       have hrbX:=HH.out.2.2.2.2.2.1.inX
       have fr8:Fr (fun k=>w.heap.size≤k) wp W8:=by
        rw [←hW8]
        exact ((Fr.of_below hAl).grown hg7 (fun k hk=>.inr (hfl4.2 k hk).1)).setCell (p:=⟨rb,3,none⟩) (.inr hrbX.1) _
       rw [hW8] at hR7 ⊢
       have HS8:=Lib.hid (And.intro hs8 (And.intro hW8 (And.intro ho7 (And.intro hl7 hg7))))
       clear hW8 hs8 ho7 hl7 hg7
       have g1:W8.drew.cell? ⟨rb,1,none⟩=some (.slice Ad ls.length cd):=hR7.blk.cell 1
       have g5:W8.drew.cell? ⟨rb,5,none⟩=some (.int .i64 ls.length):=hR7.blk.cell 5
       have hR9:=hR7.below ((Below.refl _ W8).alloc (Nat.le_refl _) (.cells #[.string s,.int .i64 ls.length] 137)).drew
       have hdir9:=hR9.dir
       rw [show ({mkP room ls with files:=(mkP room ls).files++[S.map (·.1)]}:DP).dir.length=ls.length from dirF_len 0 ls] at hdir9
       go_wp2_with fail
       refine regionE 13 (fun W0=>W0.cell? ⟨rb,1,none⟩=some (.slice Ad ls.length cd)∧W0.cell? ⟨rb,5,none⟩=some (.int .i64 ls.length)) (by kernel_rfl) (by kernel_rfl) (by kernel_rfl) (by kernel_rfl) (by kernel_rfl) (⟨g1,g5⟩) (fun hHeld hTl=>?_)
       refine tkT 0 (v:=?_) hTl hHeld rfl ?_ (fun hTl=>?_);rotate_left
       ·intro w hSw;(try dsimp only at hSw);go_simp;all_goals with_reducible rfl
       try simp only [pT]
       refine tkT 1 (v:=?_) hTl hHeld rfl ?_ (fun hTl=>?_);rotate_left
       ·intro w hSw;(try dsimp only at hSw);go_simp;all_goals with_reducible rfl
       try simp only [pT]
       refine tkT 2 (v:=?_) hTl hHeld rfl ?_ (fun hTl=>?_);rotate_left
       ·intro w hSw;(try dsimp only at hSw);go_simp;all_goals with_reducible rfl
       try simp only [pT]
       refine tkT 3 (v:=?_) hTl hHeld rfl ?_ (fun hTl=>?_);rotate_left
       ·intro w hSw;(try dsimp only at hSw);go_simp;all_goals with_reducible rfl
       try simp only [pT]
       refine tkT 4 (v:=?_) hTl hHeld rfl ?_ (fun hTl=>?_);rotate_left
       ·intro w hSw;(try dsimp only at hSw);go_simp;all_goals with_reducible rfl
       try simp only [pT]
       refine tkT 5 (v:=?_) hTl hHeld rfl ?_ (fun hTl=>?_);rotate_left
       ·intro w hSw;(try dsimp only at hSw);go_simp;all_goals with_reducible rfl
       try simp only [pT]
       refine tkT 6 (v:=?_) hTl hHeld rfl ?_ (fun hTl=>?_);rotate_left
       ·intro w hSw;(try dsimp only at hSw);go_simp;all_goals with_reducible rfl
       try simp only [pT]
       refine tkT 7 (v:=?_) hTl hHeld rfl ?_ (fun hTl=>?_);rotate_left
       ·intro w hSw;(try dsimp only at hSw);go_simp;all_goals with_reducible rfl
       try simp only [pT]
       refine tkT 8 (v:=?_) hTl hHeld rfl ?_ (fun hTl=>?_);rotate_left
       ·intro w hSw;(try dsimp only at hSw);go_simp;all_goals with_reducible rfl
       try simp only [pT]
       refine tkT 9 (v:=?_) hTl hHeld rfl ?_ (fun hTl=>?_);rotate_left
       ·intro w hSw;(try dsimp only at hSw);go_simp;all_goals with_reducible rfl
       try simp only [pT]
       refine tkT 10 (v:=?_) hTl hHeld rfl ?_ (fun hTl=>?_);rotate_left
       ·intro w hSw;(try dsimp only at hSw);go_simp;all_goals with_reducible rfl
       try simp only [pT]
       clear hTl
       refine oneE 11 rfl (by kernel_rfl) (fun K hK=>?_)
       go_simp
       refine hK.out _ _ (fun _=>⟨hR9.blk.cell 1,hR9.blk.cell 5⟩) ?_
       clear hK K
       try simp only [pT]
       refine oneE 12 rfl (by kernel_rfl) (fun K hK=>?_)
       refine step_push TEn (by rfl) (by rfl) 0 (by rfl) hdir9.1 (by rfl) (reads_blk (cs:=#[.string s,.int .i64 ls.length]) (blk_drew (Blk.new W8 _ _)) rfl) (en_one1 ⟨s,ls.length⟩) (by omega) (Nat.zero_le _) rfl (ys:=encells (dirF 0 ls++[⟨s,ls.length⟩])) (by rw [en_append];rfl) ?_
       intro A9 c9 w9 ho9 hg9 hl9;have b9:=blk_grown hR9.blk hg9 (blk_apart hR9.blk hdir9 (by decide)).symm;have y9:=b9.cell 1;have f9:=b9.frozen 1
       refine hK.out _ _ (fun _=>⟨b9.cell 1,b9.cell 5⟩) ?_
       clear hK K
       try simp only [pT]
       refine oneE 13 rfl (by kernel_rfl) (fun K hK=>?_)
       go_simp
       refine hK.out _ _ (fun h=>absurd h (by decide)) ?_
       clear hK K
       try simp only [pT]
       refine oneE 14 rfl (by kernel_rfl) (fun K hK=>?_)
       go_simp
       refine hK.out _ _ (fun h=>absurd h (by decide)) ?_
       clear hK K
       try simp only [pT]
       refine oneE 15 rfl (by kernel_rfl) (fun K hK=>?_)
       go_simp
       refine hK.out _ _ (fun h=>absurd h (by decide)) ?_
       clear hK K
       try simp only [pT]
       refine doneE (by kernel_rfl) ?_ _
       have hdl:(dirF 0 ls++[(⟨s,ls.length⟩:En)]).length=ls.length+1:=by rw [List.length_append,dirF_len];rfl
       have hr9:RowX (fun k=>w.heap.size≤k) w9 137 2 (.slice A9 (ls.length+1) c9) (ls.length+1) (encells (dirF 0 ls++[⟨s,ls.length⟩])):=rowx_up (push_own hdir9 (Nat.le_refl _) ho9 hl9) (fun k hk=>by
        rcases hk with h | h
        ·exact h
        ·have q1:=hAl.size
         have q2:W8.heap.size≤(W8.alloc (.cells #[.string s,.int .i64 ls.length] 137)).drew.heap.size:=((Below.refl _ W8).alloc (Nat.le_refl _) _).drew.size
         have q3:=fr8.size
         omega)
       have hR10:=hR9.pushEn (X':=fun k=>w.heap.size≤k) (v':=.slice A9 (ls.length+1) c9) (l':=dirF 0 ls++[⟨s,ls.length⟩]) (fun k h=>h) hg9 (by rw [hdl];exact hr9)
       have fr10:Fr (fun k=>w.heap.size≤k) wp (w9.setCell ⟨rb,1,none⟩ (.slice A9 (ls.length+1) c9)):=(((fr8.alloc (.cells #[.string s,.int .i64 ls.length] 137)).drew).grown hg9 (fun k hk=>.inr (hdir9.2 k hk))).setCell (p:=⟨rb,1,none⟩) (.inr hrbX.1) _
       have z10:=hR10.blk.cell 5
       have y10:=hR10.blk.frozen 5
       have hq5:(ls.length:Int)≤1000000:=by omega
       go_wp2
       go_roundw
       case rel =>
        obtain ⟨hLn,hB,_,_,_,_,_,hRe,hrl⟩:=HH.out
        have hR11:=hR10.setNx (ls.length+1)
        have fr11:=fr10.setCell (p:=⟨rb,5,none⟩) (.inr hrbX.1) (.int .i64 ((ls.length:Int)+1))
        have hRl:R.length=b'.length-K-64*k':=by rw [←hRe,List.length_drop,hdK]
        have hst:({({mkP room ls with files:=(mkP room ls).files++[S.map (·.1)]}:DP) with dir:=dirF 0 ls++[⟨s,ls.length⟩]}:DP)=mkP room (ls++[(nm,secs k' (b'.drop K))]):=by
         rw [mkP_add,hSx,←hs]
        have hv11:=hR11.v (by show ((ls.length:Int)+1)=(((mkP room ls).files++[S.map (·.1)]).length:Nat);rw [List.length_append,hfm];simp)
        rw [hst] at hv11
        have hRD:RD (fun k=>w.heap.size≤k) _ rb (mkP room (ls++[(nm,secs k' (b'.drop K))])):=⟨_,_,_,_,_,_,_,hv11⟩
        refine ⟨_,_,R,A',c'',hLn,by omega,hRD.lt,by rw [hRl],by rw [←hs],?_,?_,by rw [hRl,←hdK];exact hck,?_⟩
        ·rw [sumF_append]
         show Value.int .i64 _=Value.int .i64 (((sumF ls+(secs k' (b'.drop K)).length:Nat)):Int)
         rw [secs_len]
         simp
        ·rw [hRl,←hdK,←hRe]
         exact hrk
        ·exact (hB.trans (hBop.mono hBs)).trans (fr_below fr11 (fun k hk=>hk) (Nat.le_trans hBs hBop.size))
       case measure =>
        have hRl:R.length=b'.length-K-64*k':=by rw [←HH.out.2.2.2.2.2.2.2.1,List.length_drop,hdK]
        have:=HH.out.2.2.2.2.2.2.2.2
        simp only [slN]
        simp
        omega
  ·obtain rfl:b'=[]:=List.eq_nil_of_length_eq_zero (by omega)
   have d1:decide ((0:Int)<(([]:List UInt8).length:Int))=false:=by simp
   have hL':=hL.done
   by_cases hfull:room<(sumF ls:Nat)
   ·have hX:loadP room b=(none,42):=by
     unfold loadP
     rw [if_neg (by omega),hL']
     simp only
     rw [if_pos hfull]
    have d2:decide (room<(sumF ls:Nat))=true:=by simpa using hfull
    have HH:=Lib.hid (And.intro hX hB)
    clear hX hP hR hB hL hL' hfull hRo
    go_wp2
    go_ret2
    obtain ⟨hX,hB⟩:=HH.out
    exact ⟨.inr ⟨42,hX,by decide,rfl⟩,hB⟩
   ·have hX:loadP room b=(some (mkP room ls),0):=by
     unfold loadP
     rw [if_neg (by omega),hL']
     simp only
     rw [if_neg hfull]
    have d2:decide (room<(sumF ls:Nat))=false:=by simpa using hfull
    have HH:=Lib.hid (And.intro hX (And.intro hB hP))
    clear hX hP hR hB hL hL' hfull hRo
    go_wp2
    go_ret2
    obtain ⟨hX,hB,hP⟩:=HH.out
    exact ⟨.inl ⟨rb,_,hX,rfl,hP.more (fun k hk=>hk.1)⟩,hB⟩
end
section
open Go.RowKit
theorem run_entry {w:World} {M:Nat} {l:List DE} {clock:Nat} {nm:ByteArray} (hM:w.heap[M]?=some (.map (l.map DE.ent).toArray clock)) (hl:look nm l 0=none) :
 ∃ w1,(Instr.mapEntry 62 (.map (some M)) (.string nm)).run Tryz.prog w=.ok (.tuple #[.pointer none,.int .i64 (clock:Nat)]) w1∧MapTo w w1 M ((l.map DE.ent)++[MapEntry.mk (.string nm) (.pointer none) clock]).toArray (clock+1):=by
 obtain ⟨w1,h1,h2⟩:=setMap (P:=Tryz.prog) (es':=((l.map DE.ent)++[MapEntry.mk (.string nm) (.pointer none) clock]).toArray) (clock':=clock+1) hM
 refine ⟨w1,?_,h2⟩
 have hf:=find_look nm l 0
 rw [hl] at hf
 have he:(l.map DE.ent).toArray.push (MapEntry.mk (.string nm) (.pointer none) clock)=((l.map DE.ent)++[MapEntry.mk (.string nm) (.pointer none) clock]).toArray:=by simp
 simp only [Instr.mapEntry,Sem.run_bind,run_underlying Tryz.underlying62,getMap hM,chk,Instr.findKey,run_underlying Tryz.underlying9,hf,Result.andThen,Option.map_none,Sem.run_pure,zeroPk,he,h1,goInt]
theorem findIdx_last {es:List MapEntry} {x:MapEntry} (h:∀ y∈es,y.born<x.born):(es++[x]).findIdx? (fun e=>((e.born:Nat):Int)==((x.born:Nat):Int))=some es.length:=by
 induction es with
 | nil=>simp [List.findIdx?_cons]
 | cons y es ih =>
  have hy:=h y List.mem_cons_self
  have hb:(((y.born:Nat):Int)==((x.born:Nat):Int))=false:=by simp;omega
  rw [List.cons_append,List.findIdx?_cons,hb,ih (fun z hz=>h z (List.mem_cons_of_mem _ hz))]
  simp
theorem modify_end {α:Type} (f:α→α) (a:α):∀ l:List α,(l++[a]).modify l.length f=l++[f a]
 | []=>rfl
 | b::r=>by simp [List.modify_succ_cons,modify_end f a r]
theorem run_entryStore {w:World} {M:Nat} {l:List DE} {clock:Nat} {nm:ByteArray} (f:Nat) (ok:MapOK l clock) (hM:w.heap[M]?=some (.map ((l.map DE.ent)++[MapEntry.mk (.string nm) (.pointer none) clock]).toArray (clock+1))) :
 ∃ w1,(Instr.entryStore 62 (.map (some M)) (.int .i64 (clock:Nat)) (.pointer (some ⟨f,0,none⟩))).run Tryz.prog w=.ok () w1∧MapTo w w1 M ((l++[(⟨nm,f,clock⟩:DE)]).map DE.ent).toArray (clock+1):=by
 obtain ⟨w1,h1,h2⟩:=setMap (P:=Tryz.prog) (es':=((l++[(⟨nm,f,clock⟩:DE)]).map DE.ent).toArray) (clock':=clock+1) hM
 refine ⟨w1,?_,h2⟩
 have hidx:((l.map DE.ent)++[MapEntry.mk (.string nm) (.pointer none) clock]).toArray.findIdx? (fun e=>((e.born:Nat):Int)==((clock:Nat):Int))=some (l.map DE.ent).length:=by
  rw [List.findIdx?_toArray]
  exact findIdx_last (x:=(MapEntry.mk (.string nm) (.pointer none) clock)) (fun y hy=>by
   obtain ⟨z,hz,rfl⟩:=List.mem_map.1 hy
   exact ok.born z hz)
 have hmod:((l.map DE.ent)++[MapEntry.mk (.string nm) (.pointer none) clock]).toArray.modify (l.map DE.ent).length (fun e=>{e with val:=.pointer (some ⟨f,0,none⟩)})=((l++[(⟨nm,f,clock⟩:DE)]).map DE.ent).toArray:=by
  apply Array.toList_inj.1
  rw [Array.toList_modify,modify_end]
  simp [DE.ent,DE.val]
 simp only [Instr.entryStore,Sem.run_bind,getMap hM,Result.andThen,asInt,asIntOf,Sem.run_pure,hidx,hmod,h1]
end
section
open Go.RowKit Go.Sort
section
variable {B:Nat} {w:World} {lb c:Nat} {A:Option Addr} {b last r:List UInt8} {u:Int} {x:Fl}
theorem LFile_none (hl:Blk w lb 114 #[.slice A b.length c,.string ⟨last.toArray⟩,.int .i64 u]) (hlb:B≤lb) (hr:Reads w B 1 A b.length (bl b)) (hc:b.length≤c) (h9:b.length≤900000) (ht:takeF last 0 b=none) :
 Calls Tryz.prog 54 #[.pointer (some ⟨lb,0,none⟩)] w fun e w'=>e=.returned (.tuple #[.pointer none,.bool false])∧Fr (·=lb) w w':=by
 by_cases h1:(getB b).2.2≠0∨nameOK ⟨(getB b).1.toArray⟩=false∨(getB b).1≤last
 ·exact LFile_head hl hlb hr hc h9 h1
 ·simp only [not_or,Bool.not_eq_false,Decidable.not_not] at h1
  obtain ⟨t1,t2,t3⟩:=h1
  refine LFile_tail hl hlb hr hc h9 t1 t2 t3 ?_
  unfold takeF at ht
  rw [if_neg (by simp only [not_or,Bool.not_eq_false,Decidable.not_not];exact ⟨t1,t2,t3,by omega⟩)] at ht
  split at ht
  ·assumption
  ·cases ht
theorem LFile_take (hl:Blk w lb 114 #[.slice A b.length c,.string ⟨last.toArray⟩,.int .i64 u]) (hlb:B≤lb) (hr:Reads w B 1 A b.length (bl b)) (hc:b.length≤c) (h9:b.length≤900000) (hu:0≤u∧u≤100000) (ht:takeF last 0 b=some (x,r)) :
 Calls Tryz.prog 54 #[.pointer (some ⟨lb,0,none⟩)] w (FileLd B w lb u x r):=by
 unfold takeF at ht
 split at ht
 ·cases ht
 ·rename_i h1
  split at ht
  ·cases ht
  ·rename_i h2
   simp only [not_or,Bool.not_eq_false,Decidable.not_not] at h1 h2
   obtain ⟨t1,t2,t3,_⟩:=h1
   obtain ⟨q1,q2,q3⟩:=h2
   simp only [Option.some.injEq,Prod.mk.injEq] at ht
   obtain ⟨rfl,rfl⟩:=ht
   exact LFile_some hl hlb hr hc h9 hu t1 t2 t3 ⟨q1,by omega,by omega⟩
end
end
end Go.Proofs.YtekajggjoeimoaaGreatDoor
