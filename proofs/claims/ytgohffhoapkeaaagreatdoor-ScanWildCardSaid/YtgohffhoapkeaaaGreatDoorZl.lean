/- A part of the proof of ScanWild. No condition of its own. -/
import Derived.Test.YtgohffhoapkeaaaGreatDoorVz
import Derived.Test.YtgohffhoapkeaaaGreatDoorZk
import Derived.Test.YtgohffhoapkeaaaGreatDoorZi
import Derived.Test.YtgohffhoapkeaaaGreatDoorZf
import Derived.Test.YtgohffhoapkeaaaGreatDoorZh
import Derived.Test.YtgohffhoapkeaaaGreatDoorZa
import Derived.Sort.Walk0
import Derived.LoopTactic
import Derived.WalkSpells
import Derived.WalkKit
import Derived.Lib.Hide
import Derived.WalkLawsBesides
import Derived.Laws.BitsAllLaws
import Derived.Shelf.Spec.SlicesInsertGrow
import Derived.Lib.BytesEntry
set_option maxHeartbeats 4000000
set_option maxRecDepth 1000000
set_option linter.unusedVariables false
namespace Go.Proofs.YtgohffhoapkeaaaGreatDoor
section
open Go.RowKit
attribute [local go_sem] Oper.semAt_some
def goC (hi:Key):List (Except Int eS)->Nat->Except Int Nat
 | [],n=>.ok n
 | .error e::_,_=>.error e
 | .ok x::r,n=>if hi≠[]/\¬ x.1<hi then .ok n else goC hi r (n+1)
theorem sI {t:PT} {hi:Key}:∀ {f:Nat} {c:SW} {n:Nat},c.fine->qW c<f->iJ t hi f c n=goC hi (gJ t f c) n
 | 0,c,n,_,h=>by omega
 | f+1,c,n,hc,h=>by
  unfold iJ gJ
  cases hr:ia t c with
  | mk r c2 =>
   rcases r with e | ⟨_ | x⟩
   ·rfl
   ·rfl
   ·obtain ⟨h1,h2,_⟩:=wF hr hc;show (if _ then _ else iJ t hi f c2 (n+1))=goC hi (.ok x::gJ t f c2) n;unfold goC;rw [sI h1 (by omega)]
theorem GL (f:Nat) (a:Value) (w:World):Calls Tryz.prog 26 #[.func (.func f) #[a] #[]] w fun e w'=>e=.returned (.func (.func 45) #[] #[.pointer (some ⟨w.heap.size,0,none⟩)])/\w'=w.alloc (.cells #[.func (.func f) #[a] #[]] 43):=by
 go_enter Tryz.func26,Tryz.ntmps26;go_wp2;go_ret;exact ⟨rfl,rfl⟩
def GM (w:World) (r:Except Int Nat) (e:Ending) (w':World):Prop:=(match r with
 | .error k=>∃ v,e=.returned (.tuple #[.int .i64 0,v])/\k≠0/\cm w.heap.size w' ⟨#[99,111,117,110,116]⟩ ⟨#[]⟩ k v
 | .ok n=>e=.returned (.tuple #[.int .i64 (n:Nat),.nilIface]))/\Below w.heap.size w w'
theorem CW.addZ {Z:Nat->Prop} {ty B p T:Nat} {w w':World} {A:Option Addr} {cc:Nat} {kA:Option Addr} {kc:Nat} {l:List LX} {s:SW} (h:CW Z0 ty B p T w A cc kA kc l s) (hb:Below w.heap.size w w') (hZ:∀ k,Z k->w.heap.size<=k/\k<w'.heap.size):CW Z ty B p T w' A cc kA kc l s:=by
 have hm:∀ k,k<w.heap.size->WZ Z B p A k->WZ Z0 B p A k:=by
  rintro k hk ((h1 | h1) | h1)
  ·have:=(hZ k h1).1;omega
  ·exact .inl (.inr h1)
  ·exact .inr h1
 have hk:=h.key.below hb;refine ⟨(hb.block p h.blk.lt).trans h.blk,h.lo,⟨eO h.rows.row hb,fun s hs=>((h.rows.lv s hs).mono hm).below hb,h.rows.sep⟩,rM hk hb.size,fun h0 ad e hh=>h.keyN h0 ad e (hm _ (my h.key h0 ad e) hh),h.way,h.few,h.pg,h.dir,fun k hk=>(hZ k hk).2⟩
theorem aR.apart {Z:Nat->Prop} {ty B p T M:Nat} {X:Nat->Prop} {w w':World} {t:PT} {A:Option Addr} {cc:Nat} {kA:Option Addr} {kc:Nat} {l:List LX} {s:SW} (h:aR Z ty B p T M X w t A cc kA kc l s) {g:Nat} (hg:eH w g) (hB:B<=g) (hf:Fr (fun k=>k=g) w w'):aR Z ty B p T M X w' t A cc kA kc l s :=
 ⟨h.tx.keep ⟨hf.size,fun k hk hl=>hf.block k hl (fun e=>by have e:k=g:=e;have:=h.xl k hk;omega)⟩,h.xl,h.ok,gI h.g hf (fun e=>by have e:0=g:=e;have:=h.pw;omega),h.pow.of fun hl=>hf.block _ hl (fun e=>by have e:2=g:=e;have:=h.pw;omega),h.pw,h.cur.apart hg hf⟩
theorem nh (W:World) (l:Nat) (o:Obj):Fr (fun k=>k=l) W (W.putObj l o):=⟨rfl,rfl,rfl,by simp [World.putObj],fun k _ hk=>World.putObj_heap_other hk⟩
theorem cm.apart {B g:Nat} {w w':World} {op nm:ByteArray} {k:Int} {v:Value} (h:cm B w op nm k v) (hg:eH w g) (hf:Fr (fun k=>k=g) w w'):cm B w' op nm k v :=
 h.imp id fun ⟨h1,r,e,hB,hr⟩=>⟨h1,r,e,hB,(hf.block r (aS.1 hr).1 (fun e=>by have e:r=g:=e;subst e;exact hg _ _ _ hr)).trans hr⟩
theorem GY.apart {H g:Nat} {x:EY} {w w':World} (h:GY H x w) (hg:eH w g) (hf:Fr (fun k=>k=g) w w'):GY H x w':=by
 unfold GY at *
 split at h
 ·exact ⟨h.1,h.2.apart hg hf⟩
 ·obtain ⟨h1,h2,h3,h4,h5⟩:=h;exact ⟨h1,h2,h3,ax h4 hf (dU h4 hg),ax h5 hf (dU h5 hg)⟩
theorem GY.below {H:Nat} {x:EY} {w w':World} (h:GY H x w) (hb:Below w.heap.size w w'):GY H x w':=by
 unfold GY at *
 split at h
 ·exact ⟨h.1,h.2.fr (X:=fun _=>False) (Fr.of_below hb) (fun _ _ h=>h)⟩
 ·obtain ⟨h1,h2,h3,h4,h5⟩:=h;exact ⟨h1,h2,h3,rM (h4.below hb) hb.size,rM (h5.below hb) hb.size⟩
theorem aR.aside {Z:Nat->Prop} {ty B p T M:Nat} {X:Nat->Prop} {w w':World} {t:PT} {A:Option Addr} {cc:Nat} {kA:Option Addr} {kc:Nat} {l:List LX} {s:SW} (h:aR Z ty B p T M X w t A cc kA kc l s) {g:Nat} (hz:Z g) (hR:¬ RW p A g) (hB:B<=g) (hf:Fr (fun k=>k=g) w w'):aR Z ty B p T M X w' t A cc kA kc l s:=by
 have hX:∀ k,k=g->WZ Z B p A k:=fun k hk=>.inl (.inl (hk ▸ hz));refine ⟨h.tx.keep ⟨hf.size,fun k hk hl=>hf.block k hl (fun e=>by have e:k=g:=e;have:=h.xl k hk;omega)⟩,h.xl,h.ok,gI h.g hf (fun e=>by have e:0=g:=e;have:=h.pw;omega),h.pow.of fun hl=>hf.block _ hl (fun e=>by have e:2=g:=e;have:=h.pw;omega),h.pw,?_⟩;have hc:=h.cur;exact ⟨hc.blk.fr hf (fun e=>hR (.inl e.symm)),hc.lo,⟨fB hc.rows.row (fun ad e=>hf.block ad.block (hc.rows.lo_row ad e).2 (fun e2=>hR (.inr ⟨ad,e,e2⟩))),fun s hs=>(hc.rows.lv s hs).fr hf hX,hc.rows.sep⟩,ax hc.key hf (fun h0 ad e hh=>hc.keyN h0 ad e (hX _ hh)),hc.keyN,hc.way,hc.few,hc.pg,hc.dir,fun k hk=>lT (hc.zlt k hk) hf.size⟩
theorem CW.notRW {Z:Nat->Prop} {ty B p T:Nat} {w:World} {A:Option Addr} {cc:Nat} {kA:Option Addr} {kc:Nat} {l:List LX} {s:SW} (h:CW Z ty B p T w A cc kA kc l s) {g u:Nat} {cs:Array Value} (hg:aa w g u cs) (h1:u≠ty) (h2:u≠115):¬ RW p A g:=by
 rintro (rfl | ⟨ad,e,rfl⟩)
 ·have:=hg.symm.trans h.blk
  injection this with this
  injection this with _ this
  exact h1 this
 ·rcases h.rows.row.2 with ⟨h0,_⟩ | ⟨g1,cap,cur,e1,_,e3,_⟩
  ·rw [e] at h0;cases h0
  ·rw [e] at e1;have e1:=(Value.slice.injEq .. ▸ e1:some ad=_/\_).1
   cases e1
   have:=hg.symm.trans e3
   injection this with this
   injection this with _ this
   exact h2 this
theorem uB {hi:Key}:∀ {pre:List EY} {rest:List (Except Int eS)} {n:Nat},(∀ x∈pre,∃ y,x.r=.ok y/\¬ (hi≠[]/\¬ y.1<hi))->goC hi (pre.map EY.r++rest) n=goC hi rest (n+pre.length)
 | [],_,_,_=>rfl
 | x::pre,rest,n,h=>by
  obtain ⟨y,h1,h2⟩:=h x (List.mem_cons_self ..);show goC hi (x.r::(pre.map EY.r++rest)) n=_;rw [h1];show (if hi≠[]/\¬ y.1<hi then Except.ok n else goC hi (pre.map EY.r++rest) (n+1))=_;rw [if_neg h2,uB (fun z hz=>h z (List.mem_cons_of_mem _ hz))];rw [List.length_cons,Nat.add_assoc,Nat.add_comm 1]
theorem aa.putAt {w:World} {g u:Nat} {cs:Array Value} (h:aa w g u cs) (D:Nat) (o:Obj) (hD:g≠D):aa (w.putObj D o) g u cs:=(World.putObj_heap_other hD).trans h
theorem nW {B:Nat} {w w':World} (h:Below B w w') (D:Nat) {o:Obj} (hD:B<=D):Below B w (w'.putObj D o) :=
 ⟨h.os,h.tape,h.output,by have:=h.size;simpa [World.putObj] using this,fun k hk=>(World.putObj_heap_other (by omega)).trans (h.block k hk)⟩
theorem BP {X:Nat->Prop} {w:World} {T M:Nat} {t:PT} (h:TX X w T M t) (hX:∀ k,X k->k<w.heap.size) (ok:t.OK) (hg:ay w) (htab:aH w) {tA hA:Option Addr} (tc hc:Nat) {lo hi:List UInt8} (hlo:Reads w w.heap.size 1 tA lo.length (bl lo)) (hll:lo.length<=3000000) (hhi:Reads w w.heap.size 1 hA hi.length (bl hi)) (hhl:hi.length<=3000000) :
 Calls Tryz.prog 18 #[.pointer (some ⟨T,0,none⟩),.slice tA lo.length tc,.slice hA hi.length hc] w fun e w'=>GM w (BJ t lo hi) e w':=by
 obtain ⟨w1,hw1⟩:∃ w1,w1=((w.alloc (.cells #[.slice hA hi.length hc] 23)).alloc (.cells #[.int .i64 0] 3)).alloc (.cells #[.nilIface] 30):=⟨_,rfl⟩
 have hb1:Below w.heap.size w w1:=by rw [hw1];exact (((bR _ w).alloc (nR _) _).alloc (by simp) _).alloc (by simp;omega) _
 have hs1:w1.heap.size=w.heap.size+3:=by rw [hw1];simp
 have hH1:aa w1 w.heap.size 23 #[.slice hA hi.length hc]:=by rw [hw1];exact ((aa.new w _ _).alloc _).alloc _
 have hI1:aa w1 (w.heap.size+1) 3 #[.int .i64 0]:=by rw [hw1];have:=(aa.new (w.alloc (.cells #[.slice hA hi.length hc] 23)) 3 #[.int .i64 0]).alloc (.cells #[.nilIface] 30);simpa using this
 have hJ1:aa w1 (w.heap.size+2) 30 #[.nilIface]:=by rw [hw1];have:=aa.new ((w.alloc (.cells #[.slice hA hi.length hc] 23)).alloc (.cells #[.int .i64 0] 3)) 30 #[.nilIface];simpa using this
 have hNw:=DN (h.keep (co.of_below hb1)) (fun k hk=>lT (hX k hk) hb1.size) ok (ai hg hb1) (aw htab hb1) tc (rM (hlo.below hb1) hb1.size) hll;have HW1:=lH hw1;unfold BJ
 cases hnw:Fb t lo with
 | error k =>
  rw [hnw] at hNw;have HB:=lH (aI hb1 (aI hI1 (aI hJ1 (ai hg hb1))));clear h hX hg htab hlo hhi hw1 hH1 hI1 hJ1 hb1;go_enter Tryz.func18,Tryz.ntmps18
  go_wp2_with (first
   | (
    rw [<-HW1.out];go_at_call 14;refine hNw.mono ?_;rintro e w2 ⟨⟨v,rfl,hk,hv⟩,hb2⟩
    have hvv:∃ tv pe,v=.iface tv pe:=(by rcases hv with ⟨h9,_⟩ | ⟨_,r,e9,_⟩;exact absurd h9 hk;exact ⟨_,_,e9⟩)
    obtain ⟨tv,pe,rfl⟩:=hvv
    have hFa:=fun op=>ed op hv.e (ai HB.out.2.2.2 hb2))
   | (
    go_at_call 25;refine (hFa _).mono ?_;rintro e w3 ⟨v3,rfl,hv3,hb3⟩
    have hv3v:∃ tv3 pe3,v3=.iface tv3 pe3:=(by rcases hv3 with ⟨h9,_⟩ | ⟨_,r,e9,_⟩;exact absurd h9 hk;exact ⟨_,_,e9⟩)
    obtain ⟨tv3,pe3,rfl⟩:=hv3v;have hb23:=hb2.trans (hb3.mono hb2.size);have hI3:=HB.out.2.1.below hb23 HB.out.2.1.lt;have hJ3:=HB.out.2.2.1.below hb23 HB.out.2.2.1.lt;have i0:=hI3.cell 0;have j0:=hJ3.cell 0;have if0:=hI3.frozen 0;have jf0:=hJ3.frozen 0;have hI4:=hI3.set_ 0 (.int .i64 0);have hJ4:=hJ3.far (p:=⟨w.heap.size+1,0,none⟩) (by show w.heap.size+2≠w.heap.size+1;omega) (.int .i64 0);have j40:=hJ4.cell 0
    have jf40:=hJ4.frozen 0))
  have hI9:=hI4.far (p:=⟨w.heap.size+2,0,none⟩) (by show w.heap.size+1≠w.heap.size+2;omega) (.iface tv3 pe3);have hJ9:=hJ4.set_ 0 (.iface tv3 pe3);have hb9:Below w.heap.size w ((w3.setCell ⟨w.heap.size+1,0,none⟩ (.int .i64 0)).setCell ⟨w.heap.size+2,0,none⟩ (.iface tv3 pe3)):=((HB.out.1.trans (hb23.mono HB.out.1.size)).setCell (p:=⟨w.heap.size+1,0,none⟩) (by show w.heap.size<=w.heap.size+1;omega) _).setCell (p:=⟨w.heap.size+2,0,none⟩) (by show w.heap.size<=w.heap.size+2;omega) _;have hE9:cm w.heap.size ((w3.setCell ⟨w.heap.size+1,0,none⟩ (.int .i64 0)).setCell ⟨w.heap.size+2,0,none⟩ (.iface tv3 pe3)) ⟨#[99,111,117,110,116]⟩ ⟨#[]⟩ k (.iface tv3 pe3):=((hv3.fr (X:=fun j=>j=w.heap.size+1) (aT rfl) (fun r hr e=>by have e:r=w.heap.size+1:=e;have:=hb2.size;omega)).fr (X:=fun j=>j=w.heap.size+2) (aT rfl) (fun r hr e=>by have e:r=w.heap.size+2:=e;have:=hb2.size;omega)).lo (by have:=hb2.size;omega)
  obtain ⟨W,hW⟩:∃ W,(w3.setCell ⟨w.heap.size+1,0,none⟩ (.int .i64 0)).setCell ⟨w.heap.size+1+1,0,none⟩ (.iface tv3 pe3)=W:=⟨_,rfl⟩
  rw [hW] at hI9 hJ9 hb9 hE9 ⊢;have r1:W.cell? ⟨w.heap.size+1,0,none⟩=some (.int .i64 0):=hI9.cell 0;have r2:W.cell? ⟨w.heap.size+1+1,0,none⟩=some (.iface tv3 pe3):=hJ9.cell 0;refine bodyPost_ret (v:=.tuple #[.int .i64 0,.iface tv3 pe3]) (by simp [results,Tryz.results18,go_sem,r1,r2]) rfl ?_;exact ⟨⟨_,rfl,hk,hE9⟩,hb9⟩
 | ok c =>
  rw [hnw] at hNw;have HB:=lH (aI hb1 (aI hH1 (aI hI1 (aI hJ1 hhi))));have HT:=lH (aI h (aI hX (aI ok (aI hg htab))));clear h hX ok hg htab hlo hhi hw1 hH1 hI1 hJ1 hb1;refine (callsIn_wide (n:=5)).1 ?_;refine callsIn_of_wp_marks Tryz.func18 rfl trivial ?_ rfl;simp only [Tryz.ntmps18,List.size_toArray,List.length_cons,List.length_nil,Nat.reduceAdd,Nat.reduceSub,Array.replicate_succ,Array.replicate_zero,List.push_toArray,List.append_toArray,List.nil_append,List.cons_append]
  gi_wp2_with (first
   | (refine ⟨trivial,?_⟩;rw [<-HW1.out];gi_at_call 14;refine (callsIn_wide.2 hNw).mono ?_;rintro e w2 ⟨⟨p,A2,cc2,kA2,kc2,l2,rfl,hC2,hd2⟩,hb2⟩)
   | (refine ⟨trivial,?_⟩;gi_at_call 26;refine (callsIn_wide.2 (GL _ _ _)).mono ?_;rintro e w3 ⟨rfl,hww⟩;have hww:=hww.symm;subst hww))
  obtain ⟨hb1,hH1,hI1,hJ1,hhi⟩:=HB.out
  obtain ⟨w4,hw4⟩:∃ w4,w4=(w2.alloc (.cells #[.int .i64 0] 3)).alloc (.cells #[.func (.func 15) #[.pointer (some ⟨p,0,none⟩)] #[]] 43):=⟨_,rfl⟩
  have hb24:Below w2.heap.size w2 w4:=by rw [hw4];exact ((bR _ _).alloc (nR _) _).alloc (by simp) _
  have hs4:w4.heap.size=w2.heap.size+2:=by rw [hw4];simp
  have hN4:aa w4 w2.heap.size 3 #[.int .i64 0]:=by rw [hw4];exact (aa.new w2 _ _).alloc _
  have hX4:aa w4 (w2.heap.size+1) 43 #[.func (.func 15) #[.pointer (some ⟨p,0,none⟩)] #[]]:=by rw [hw4];have:=aa.new (w2.alloc (.cells #[.int .i64 0] 3)) 43 #[.func (.func 15) #[.pointer (some ⟨p,0,none⟩)] #[]];simpa using this
  have hb14:Below w1.heap.size w1 w4:=hb2.trans (hb24.mono hb2.size);have hb04:Below w.heap.size w w4:=hb1.trans (hb14.mono hb1.size);have h12:=hb2.size;have hC4:=hC2.addZ (Z:=fun k=>k=w2.heap.size\/k=w2.heap.size+1) hb24 (fun k hk=>by rcases hk with hk | hk <;> omega)
  have hE4:aR (fun k=>k=w2.heap.size\/k=w2.heap.size+1) 75 w1.heap.size p T M X w4 t A2 cc2 kA2 kc2 l2 c:=⟨HT.out.1.keep (co.of_below hb04),fun k hk=>lT (HT.out.2.1 k hk) hb1.size,HT.out.2.2.1,ai HT.out.2.2.2.1 hb04,aw HT.out.2.2.2.2 hb04,lT (dQ HT.out.2.2.2.2) hb1.size,hC4⟩
  have hpl:=hC2.blk.lt;have hAl:∀ ad,A2=some ad->ad.block<w2.heap.size:=fun ad e=>(hC2.rows.lo_row ad e).2
  have hZR:∀ k,(k=w2.heap.size\/k=w2.heap.size+1)->¬ RW p A2 k:=fun k hk e=>by
   rcases e with e | ⟨ad,e1,e2⟩
   ·omega
   ·have:=hAl ad e1;omega
  have hall:=Im 4 (by omega) (w2.heap.size+1) hE4 hd2 hZR hX4 (.inr rfl);have hH4:=hH1.below hb14 hH1.lt;have hI4:=hI1.below hb14 hI1.lt;have hJ4:=hJ1.below hb14 hJ1.lt;have HCT:=lH (sI (t:=t) (hi:=hi) (n:=0) hC2.fine (DO hC2.fine (by rw [hC2.len];exact hC2.few)));rw [<-hw4];clear hw4
  refine ng rfl (by omega) (gf:=45) (lb:=#[.pointer (some ⟨w2.heap.size+1,0,none⟩)]) rfl trivial (enters_of Tryz.func45 (by kernel_rfl) rfl)
   hall (fun h=>h.others) ?hGb (fun h k=>⟨k.1.trans h.1,nT h.2.1 k.2.1,fun A1 cc kA kc l s e=>k.2.2 _ _ _ _ _ _ (h.2.2 _ _ _ _ _ _ e)⟩)
   ?hkb (bR _ _) (fun _=>rfl)
   (fun pre W=>aa W w2.heap.size 3 #[.int .i64 (pre.length:Nat)]/\aa W w.heap.size 23 #[.slice hA hi.length hc]/\aa W (w.heap.size+1) 3 #[.int .i64 0]/\aa W (w.heap.size+2) 30 #[.nilIface]/\Below w.heap.size w W/\w4.heap.size<=W.heap.size/\ay W/\∀ x∈pre,∃ y,x.r=.ok y/\¬ (hi≠[]/\¬ y.1<hi))
   (fun c pre W=>c=.ret/\Below w.heap.size w W/\∃ pre0 x,pre=pre0++[x]/\(∀ x∈pre0,∃ y,x.r=.ok y/\¬ (hi≠[]/\¬ y.1<hi)) /\
    ((
     ∃ k v,x.r=.error k/\k≠0/\aa W (w.heap.size+1) 3 #[.int .i64 0]/\aa W (w.heap.size+2) 30 #[v]/\cm w.heap.size W ⟨#[99,111,117,110,116]⟩ ⟨#[]⟩ k v) \/
     (∃ y,x.r=.ok y/\(hi≠[]/\¬ y.1<hi)/\aa W (w.heap.size+1) 3 #[.int .i64 (pre0.length:Nat)]/\aa W (w.heap.size+2) 30 #[.nilIface])))
   ?hi ?hix ?hIr ?h0 ?a1 ?ob ?hGa ?hKa ?assign ?body ?done ?stop
  case ob=>exact fun x=>.cells #[.slice x.a1 x.m1 x.k1,.slice x.a2 x.m2 x.k2] 41
  case hGb =>
   intro x W l o o' hl ho hc hw hG;exact hG.apart (oN ho hc) (nh W l o')
  case hkb =>
   intro W l o o' hl ho hc hw;exact ⟨World.putObj_heap_other (by omega),by simp [World.putObj],fun A1 cc kA kc l1 s e=>e.apart (oN ho hc) (by omega) (nh W l o')⟩
  case hGa =>
   intro x W hG;exact hG.below ((bR _ W).alloc (nR _) _)
  case hKa =>
   intro x W hW;have hb:=(bR W.heap.size W).alloc (nR _) (.cells #[.slice x.a1 x.m1 x.k1,.slice x.a2 x.m2 x.k2] 41);exact ⟨Below.heap_alloc _ _ _ (by omega),hb.size,fun A1 cc kA kc l1 s e=>e.next (Fr.of_below hb) (e.cur.below hb)⟩
  case assign =>
   intro l x W b K hb hK;unfold Fi
   gi_wp2
   exact hK
  case h0=>exact ⟨hN4,hH4,hI4,hJ4,hb04,nR _,hE4.g,fun x hx=>by cases hx⟩
  case hi =>
   rintro pre W W' row ⟨h1,h2,h3,h4,h5,h6,h7,h8⟩ hg hr;have hk:∀ k,k<w4.heap.size->W'.heap[k]?=W.heap[k]?:=fun k hk=>hg.block k (by omega) (fun e=>by have:=(hr _ e.symm).1;omega);exact ⟨(hk _ (by omega)).trans h1,(hk _ (by omega)).trans h2,(hk _ (by omega)).trans h3,(hk _ (by omega)).trans h4,(ownFrom_below (β:=List EY) (B:=w4.heap.size) (nR _) (by omega)) pre W W' row h5 hg hr,nT h6 hg.size,(World.cell?_of_block (w:=W) (hk 0 (by omega))).trans h7,h8⟩
  case hix =>
   rintro c pre W W' row ⟨h1,h2,pre0,x,h3,h4,h5⟩ hg hr;refine ⟨h1,(ownFrom_below (β:=List EY) (B:=w4.heap.size) (nR _) (by omega)) pre W W' row h2 hg hr,pre0,x,h3,h4,?_⟩;have hk:∀ k,k<w4.heap.size->k<W.heap.size->W'.heap[k]?=W.heap[k]?:=fun k hk hl=>hg.block k hl (fun e=>by have:=(hr _ e.symm).1;omega)
   rcases h5 with ⟨k,v,h6,h7,h8,h9,h10⟩ | ⟨y,h6,h7,h8,h9⟩
   ·refine .inl ⟨k,v,h6,h7,(hk _ (by omega) h8.lt).trans h8,(hk _ (by omega) h9.lt).trans h9,?_⟩
    rcases h10 with h10 | ⟨h10,r,e,hB,hbr⟩
    ·exact .inl h10
    ·refine .inr ⟨h10,r,e,hB,(hg.block r (aS.1 hbr).1 (fun e2=>?_)).trans hbr⟩;obtain ⟨_,o,ho,hc⟩:=hr _ e2.symm;exact oN ho hc _ _ _ hbr
   ·exact .inr ⟨y,h6,h7,(hk _ (by omega) h8.lt).trans h8,(hk _ (by omega) h9.lt).trans h9⟩
  case hIr =>
   rintro pre W W' ⟨h1,h2,h3,h4,h5,h6,h7,h8⟩ hr;have hk:∀ k,k<w1.heap.size->W'.heap[k]?=W.heap[k]?:=fun k hk=>hr.keep k (by omega) (.inr hk);exact ⟨(hr.keep _ h1.lt (.inl (.inl rfl))).trans h1,(hk _ (by omega)).trans h2,(hk _ (by omega)).trans h3,(hk _ (by omega)).trans h4,⟨hr.os.trans h5.os,hr.tape.trans h5.tape,hr.output.trans h5.output,nT h5.size hr.size,fun k hk2=>(hk k (by omega)).trans (h5.block k hk2)⟩,nT h6 hr.size,(World.cell?_of_block (w:=W) (hk 0 (by omega))).trans h7,h8⟩
  case body =>
   rintro l pre ⟨xa1,xm1,xk1,xa2,xm2,xk2,xv,xr⟩ W b hb0 hob hG ⟨h1,h2,h3,h4,h5,h6,h7,h8⟩ hlt;have hX:aa W b 41 #[.slice xa1 xm1 xk1,.slice xa2 xm2 xk2]:=hob
   cases xr with
   | error k =>
    obtain ⟨hk,hv⟩:k≠0/\cm w1.heap.size W ⟨#[110,101,120,116]⟩ ⟨#[]⟩ k xv:=hG
    obtain ⟨tv,pe,hve⟩:∃ tv pe,xv=.iface tv pe:=by
     rcases hv with ⟨h9,_⟩ | ⟨_,r,e9,_⟩
     ·exact absurd h9 hk
     ·exact ⟨_,_,e9⟩
    subst hve;have hFa:=fun op=>ed op hv.e h7;have HB2:=lH (aI h3 (aI h4 h5));clear h1 h2 h3 h4 h5 h6 h7 hb1 hH1 hI1 hJ1 hhi hH4 hI4 hJ4 hall hC4 hE4 hX4 hN4 hob
    gi_wp2_with (
     refine ⟨trivial,?_⟩;gi_at_call 25;refine (callsIn_wide.2 (hFa _)).mono ?_;rintro e w3 ⟨v3,rfl,hv3,hb3⟩
     have hv3v:∃ tv3 pe3,v3=.iface tv3 pe3:=(by rcases hv3 with ⟨h9,_⟩ | ⟨_,r,e9,_⟩;exact absurd h9 hk;exact ⟨_,_,e9⟩)
     obtain ⟨tv3,pe3,rfl⟩:=hv3v;have hI3:=HB2.out.1.below hb3 HB2.out.1.lt;have hJ3:=HB2.out.2.1.below hb3 HB2.out.2.1.lt;have i0:=hI3.cell 0;have j0:=hJ3.cell 0;have if0:=hI3.frozen 0;have jf0:=hJ3.frozen 0;have hI4:=hI3.set_ 0 (.int .i64 0);have hJ4:=hJ3.far (p:=⟨w.heap.size+1,0,none⟩) (by show w.heap.size+2≠w.heap.size+1;omega) (.int .i64 0);have j40:=hJ4.cell 0
     have jf40:=hJ4.frozen 0)
    have hI9:=hI4.far (p:=⟨w.heap.size+2,0,none⟩) (by show w.heap.size+1≠w.heap.size+2;omega) (.iface tv3 pe3);have hJ9:=hJ4.set_ 0 (.iface tv3 pe3);have hWs:=HB2.out.2.1.lt;have hb9:Below w.heap.size w ((w3.setCell ⟨w.heap.size+1,0,none⟩ (.int .i64 0)).setCell ⟨w.heap.size+2,0,none⟩ (.iface tv3 pe3)):=((HB2.out.2.2.trans (hb3.mono HB2.out.2.2.size)).setCell (p:=⟨w.heap.size+1,0,none⟩) (by show w.heap.size<=w.heap.size+1;omega) _).setCell (p:=⟨w.heap.size+2,0,none⟩) (by show w.heap.size<=w.heap.size+2;omega) _;have hE9:cm w.heap.size ((w3.setCell ⟨w.heap.size+1,0,none⟩ (.int .i64 0)).setCell ⟨w.heap.size+2,0,none⟩ (.iface tv3 pe3)) ⟨#[99,111,117,110,116]⟩ ⟨#[]⟩ k (.iface tv3 pe3):=((hv3.fr (X:=fun j=>j=w.heap.size+1) (aT rfl) (fun r hr e=>by have e:r=w.heap.size+1:=e;omega)).fr (X:=fun j=>j=w.heap.size+2) (aT rfl) (fun r hr e=>by have e:r=w.heap.size+2:=e;omega)).lo (by omega);exact ⟨((wH (Fr.of_below (X:=fun _=>False) hb3) (fun _ h=>h.elim)).trans (KeepsOthers.setCell _ _ _)).trans (KeepsOthers.setCell _ _ _),rfl,hb9,pre,_,rfl,h8,.inl ⟨k,_,rfl,hk,hI9,hJ9,hE9⟩⟩
   | ok y =>
    obtain ⟨key,val⟩:=y;obtain ⟨hv,hm1,hm2,hrk,hrv⟩:xv=.nilIface/\xm1=key.length/\xm2=val.length/\Reads W W.heap.size 1 xa1 key.length (bl key)/\Reads W W.heap.size 1 xa2 val.length (bl val):=hG;subst hv hm1 hm2;have n0:W.cell? ⟨w2.heap.size,0,none⟩=some (.int .i64 (pre.length:Nat)):=h1.cell 0;have nf0:=h1.frozen 0;have t0:W.cell? ⟨w.heap.size,0,none⟩=some (.slice hA hi.length hc):=h2.cell 0;have x0:W.cell? ⟨b,0,none⟩=some (.slice xa1 key.length xk1):=hX.cell 0;have i0:=h3.cell 0;have j0:=h4.cell 0;have if0:=h3.frozen 0;have jf0:=h4.frozen 0;have hI4:=h3.set_ 0 (.int .i64 (pre.length:Nat));have hJ4:=h4.far (p:=⟨w.heap.size+1,0,none⟩) (by show w.heap.size+2≠w.heap.size+1;omega) (.int .i64 (pre.length:Nat));have j40:=hJ4.cell 0;have jf40:=hJ4.frozen 0;have hI9:=hI4.far (p:=⟨w.heap.size+2,0,none⟩) (by show w.heap.size+1≠w.heap.size+2;omega) .nilIface;have hJ9:=hJ4.set_ 0 .nilIface;have hCm:=dJ xk1 hc W hrk (hhi.below h5)
    obtain ⟨r,HR⟩:∃ r,Hid (Lib.compareBytes key hi=r):=⟨_,lH rfl⟩
    rw [HR.out] at hCm;have HB2:=lH (aI h1 (aI h2 (aI h3 (aI h4 (aI h5 (aI h6 (aI h7 (aI hI9 hJ9))))))));have HX2:=lH (aI hb1 hs1);clear h1 h2 h3 h4 h5 h6 h7 hb1 hH1 hI1 hJ1 hhi hH4 hall hC4 hE4 hX4 hN4 hob hI9 hJ9 hrk hrv hX
    have fin:(hi≠[]->key<hi)->KeepsOthers W (W.setCell ⟨w2.heap.size,0,none⟩ (.int .i64 ((pre.length:Nat)+1)))/\Ji (fun k=>k=w2.heap.size\/k=w2.heap.size+1) w1.heap.size p T M X t (w2.heap.size+1) W (W.setCell ⟨w2.heap.size,0,none⟩ (.int .i64 ((pre.length:Nat)+1))) /\
     (aa (W.setCell ⟨w2.heap.size,0,none⟩ (.int .i64 ((pre.length:Nat)+1))) w2.heap.size 3 #[.int .i64 ((pre++[(⟨xa1,key.length,xk1,xa2,val.length,xk2,.nilIface,.ok (key,val)⟩:EY)]).length:Nat)]/\aa (W.setCell ⟨w2.heap.size,0,none⟩ (.int .i64 ((pre.length:Nat)+1))) w.heap.size 23 #[.slice hA hi.length hc]/\aa (W.setCell ⟨w2.heap.size,0,none⟩ (.int .i64 ((pre.length:Nat)+1))) (w.heap.size+1) 3 #[.int .i64 0]/\aa (W.setCell ⟨w2.heap.size,0,none⟩ (.int .i64 ((pre.length:Nat)+1))) (w.heap.size+2) 30 #[.nilIface]/\Below w.heap.size w (W.setCell ⟨w2.heap.size,0,none⟩ (.int .i64 ((pre.length:Nat)+1)))/\w4.heap.size<=(W.setCell ⟨w2.heap.size,0,none⟩ (.int .i64 ((pre.length:Nat)+1))).heap.size/\ay (W.setCell ⟨w2.heap.size,0,none⟩ (.int .i64 ((pre.length:Nat)+1)))/\∀ x∈pre++[(⟨xa1,key.length,xk1,xa2,val.length,xk2,.nilIface,.ok (key,val)⟩:EY)],∃ y,x.r=.ok y/\¬ (hi≠[]/\¬ y.1<hi)):=by
     intro hkh;obtain ⟨g1,g2,g3,g4,g5,g6,g7,g8,g9⟩:=HB2.out;have hss:=HX2.out.2;have hf:Fr (fun k=>k=w2.heap.size) W (W.setCell ⟨w2.heap.size,0,none⟩ (.int .i64 ((pre.length:Nat)+1))):=aT rfl;have hgl:=g1.lt;refine ⟨KeepsOthers.setCell _ _ _,⟨hf.block _ (by omega) (fun e=>by have e:w2.heap.size+1=w2.heap.size:=e;omega),hf.size,fun A1 cc kA kc l s e=>e.aside (.inl rfl) (e.cur.notRW g1 (by decide) (by decide)) (by omega) hf⟩,?_,g2.fr hf (fun e=>by have e:w.heap.size=w2.heap.size:=e;omega),g3.fr hf (fun e=>by have e:w.heap.size+1=w2.heap.size:=e;omega),g4.fr hf (fun e=>by have e:w.heap.size+2=w2.heap.size:=e;omega),g5.setCell (p:=⟨w2.heap.size,0,none⟩) (by show w.heap.size<=w2.heap.size;omega) _,nT g6 hf.size,gI g7 hf (fun e=>by have e:0=w2.heap.size:=e;omega),?_⟩
     ·have:=g1.set_ 0 (.int .i64 ((pre.length:Nat)+1))
      simpa using this
     ·intro x hx
      rcases List.mem_append.1 hx with hx | hx
      ·exact h8 x hx
      ·obtain rfl:=List.mem_singleton.1 hx;exact ⟨_,rfl,fun hh=>hh.2 (hkh hh.1)⟩
    by_cases hz:hi=[]
    ·subst hz
     gi_wp2_with (refine ⟨trivial,?_⟩)
     exact fin (fun h=>absurd rfl h)
    ·have hpos:(0:Int)<(hi.length:Nat):=by have:=List.length_pos_iff.2 hz;omega
     have HZ:=lH hz;clear hz
     gi_wp2_with (refine ⟨trivial,?_⟩;gi_at_call 27;refine (callsIn_wide.2 hCm).mono ?_;rintro e w3 ⟨rfl,hww⟩;have hww:=hww.symm;subst hww)
     ·have h0:0<=r:=by assumption
      have hlt2:¬ key<hi:=fun hh=>by have:=(i6 key hi).2 hh;rw [HR.out] at this;omega
      obtain ⟨g1,g2,g3,g4,g5,g6,g7,g8,g9⟩:=HB2.out;exact ⟨(KeepsOthers.setCell _ _ _).trans (KeepsOthers.setCell _ _ _),rfl,(g5.setCell (p:=⟨w.heap.size+1,0,none⟩) (by show w.heap.size<=w.heap.size+1;omega) _).setCell (p:=⟨w.heap.size+2,0,none⟩) (by show w.heap.size<=w.heap.size+2;omega) _,pre,_,rfl,h8,.inr ⟨_,rfl,⟨HZ.out,hlt2⟩,g8,g9⟩⟩
     ·have h0:r<0:=by assumption
      exact fin (fun _=>(i6 key hi).1 (by rw [HR.out];exact h0))
  case done =>
   rintro D xs W hD hS ⟨h1,h2,h3,h4,h5,h6,h7,h8⟩ hDW;have n0:W.cell? ⟨w2.heap.size,0,none⟩=some (.int .i64 (xs.length:Nat)):=h1.cell 0;have i0:=h3.cell 0;have if0:=h3.frozen 0;have j0:=h4.cell 0;have jf0:=h4.frozen 0;have hI4:=h3.set_ 0 (.int .i64 (xs.length:Nat));have hJ4:=h4.far (p:=⟨w.heap.size+1,0,none⟩) (by show w.heap.size+2≠w.heap.size+1;omega) (.int .i64 (xs.length:Nat));have j40:=hJ4.cell 0;have jf40:=hJ4.frozen 0;have hI9:=hI4.far (p:=⟨w.heap.size+2,0,none⟩) (by show w.heap.size+1≠w.heap.size+2;omega) .nilIface;have hJ9:=hJ4.set_ 0 .nilIface;have hb9:Below w.heap.size w ((W.setCell ⟨w.heap.size+1,0,none⟩ (.int .i64 (xs.length:Nat))).setCell ⟨w.heap.size+2,0,none⟩ .nilIface):=(h5.setCell (p:=⟨w.heap.size+1,0,none⟩) (by show w.heap.size<=w.heap.size+1;omega) _).setCell (p:=⟨w.heap.size+2,0,none⟩) (by show w.heap.size<=w.heap.size+2;omega) _;have hD9:((W.setCell ⟨w.heap.size+1,0,none⟩ (.int .i64 (xs.length:Nat))).setCell ⟨w.heap.size+2,0,none⟩ .nilIface).heap[D]?=some (.deferred (some [])):=(Below.heap_setCell _ ⟨w.heap.size+2,0,none⟩ _ D (by show D≠w.heap.size+2;omega)).trans ((Below.heap_setCell W ⟨w.heap.size+1,0,none⟩ _ D (by show D≠w.heap.size+1;omega)).trans hDW)
   have hgo:iJ t hi 110000 c 0=.ok xs.length:=by rw [HCT.out,<-hS,<-List.append_nil (xs.map EY.r),uB h8];simp [goC]
   have HF:=lH (aI hI9 (aI hJ9 (aI hb9 (aI hD9 hgo))));clear h1 h2 h3 h4 h5 h6 h7 h8 hI4 hJ4 hI9 hJ9 hb9 hD9 hgo hS
   gi_wp2
   obtain ⟨hI9,hJ9,hb9,hD9,hgo⟩:=HF.out;rw [hgo]
   obtain ⟨W2,hW2⟩:∃ W2,(W.setCell ⟨w.heap.size+1,0,none⟩ (.int .i64 (xs.length:Nat))).setCell ⟨w.heap.size+1+1,0,none⟩ .nilIface=W2:=⟨_,rfl⟩
   rw [hW2] at hI9 hJ9 hb9 hD9 ⊢;refine ⟨by simp,.inl ⟨_,_,rfl,run_takeDeferred hD9,?_⟩⟩;have hI10:=hI9.putAt D (.deferred none) (by omega);have hJ10:=hJ9.putAt D (.deferred none) (by omega);have r1:(W2.putObj D (.deferred none)).cell? ⟨w.heap.size+1,0,none⟩=some (.int .i64 (xs.length:Nat)):=hI10.cell 0;have r2:(W2.putObj D (.deferred none)).cell? ⟨w.heap.size+1+1,0,none⟩=some .nilIface:=hJ10.cell 0;refine ⟨.tuple #[.int .i64 (xs.length:Nat),.nilIface],by simp [results,Tryz.results18,go_sem,r1,r2],?_⟩;exact ⟨rfl,nW hb9 D (by omega)⟩
  case stop =>
   rintro D c2 pre W hD ⟨rest,hS⟩ ⟨rfl,h2,pre0,x,rfl,h4,h5⟩ hDW
   have hgo:iJ t hi 110000 c 0=goC hi (x.r::rest) pre0.length:=by rw [HCT.out,hS,List.map_append,List.append_assoc,uB h4];simp
   have hds:=(aS.1 hDW).1
   gi_wp2
   rw [hgo];refine ⟨by simp,.inl ⟨_,_,rfl,run_takeDeferred hDW,?_⟩⟩;have hb10:=nW h2 D (o:=.deferred none) (by omega)
   rcases h5 with ⟨k,v,h6,h7,h8,h9,h10⟩ | ⟨y,h6,h7,h8,h9⟩
   ·have hI10:=h8.putAt D (.deferred none) (by omega);have hJ10:=h9.putAt D (.deferred none) (by omega);have r1:(W.putObj D (.deferred none)).cell? ⟨w.heap.size+1,0,none⟩=some (.int .i64 0):=hI10.cell 0;have r2:(W.putObj D (.deferred none)).cell? ⟨w.heap.size+1+1,0,none⟩=some v:=hJ10.cell 0;refine ⟨.tuple #[.int .i64 0,v],by simp [results,Tryz.results18,go_sem,r1,r2],?_⟩;rw [h6];exact ⟨⟨v,rfl,h7,h10.apart (oN hDW rfl) (nh W D _)⟩,hb10⟩
   ·have hI10:=h8.putAt D (.deferred none) (by omega);have hJ10:=h9.putAt D (.deferred none) (by omega);have r1:(W.putObj D (.deferred none)).cell? ⟨w.heap.size+1,0,none⟩=some (.int .i64 (pre0.length:Nat)):=hI10.cell 0;have r2:(W.putObj D (.deferred none)).cell? ⟨w.heap.size+1+1,0,none⟩=some .nilIface:=hJ10.cell 0;refine ⟨.tuple #[.int .i64 (pre0.length:Nat),.nilIface],by simp [results,Tryz.results18,go_sem,r1,r2],?_⟩;rw [h6];unfold goC;rw [if_pos h7];exact ⟨rfl,hb10⟩
attribute [local go_sem] Oper.semAt_some
theorem wI (w:World):Calls Tryz.prog 17 #[.pointer none] w fun e w'=>e=.returned (.tuple #[zeroV,.bool false,.nilIface])/\Below w.heap.size w w':=by
 have hE1:aa (w.alloc (.cells #[.slice none 0 0,.slice none 0 0] 41)) w.heap.size 41 #[.slice none 0 0,.slice none 0 0]:=aa.new _ _ _;go_enter Tryz.func17,Tryz.ntmps17
 go_wp2_with (refine wpList_store_row rfl 41 _ _ rfl w.heap.size _ rfl rfl 41 _ hE1 (by kernel_rfl) rfl (by simp [Value.oneCell']) ?_)
 refine bodyPost_ret (aG rfl _ _ w.heap.size 41 _ (0,0) _ rfl (setRow_heap _ _ _ _ _ _ hE1) Tryz.underlying41 rfl (by kernel_rfl)) rfl ?_;exact ⟨rfl,((bR _ w).alloc (nR _) _).trans ((fS _ w.heap.size _).below (B:=w.heap.size) (by simp) (fun k e=>by have e:k=w.heap.size:=e;omega))⟩
end
end Go.Proofs.YtgohffhoapkeaaaGreatDoor
namespace Go.Proofs.YtgohffhoapkeaaaGreatDoor
open Go.RowKit
theorem nX {t:PT} {lo:Key} {c':SW}:∀ {f n:Nat} {c:SW},bm t f c n lo=.ok c'->c'.any=c.any/\c'.last=c.last
 | 0,n,c,h=>by cases h
 | f+1,n,c,h=>by
  unfold bm at h
  split at h
  ·cases h
  ·split at h
   ·cases h
    exact ⟨rfl,rfl⟩
   ·have h2:=nX h;exact h2
theorem ln {t:PT} {x:eS} {c':SW}:∀ {f:Nat} {c:SW},iK t f c=.ok (some x,c')->(c.any=true->x.1<c.last)/\c'.any=true/\c'.last=x.1
 | 0,c,h=>by cases h
 | f+1,c,h=>by
  unfold iK at h
  split at h
  ·cases h
  ·split at h
   ·have h2:=ln h;exact h2
   ·split at h
    ·cases h
    ·split at h
     ·split at h
      ·cases h
      ·rename_i r hr;unfold eE at hr
       split at hr
       ·cases hr
       ·rename_i hn
        split at hr
        ·cases hr
        ·cases hr
         cases h
         refine ⟨fun ha=>?_,rfl,rfl⟩;exact Classical.byContradiction fun h9=>hn ⟨ha,h9⟩
     ·split at h
      ·cases h
      ·rename_i c2 hc2;have h1:=nX hc2;have h2:=ln h;exact ⟨fun ha=>by have:=h2.1 (h1.1.trans ha);rw [h1.2] at this;exact this,h2.2⟩
theorem wJ {t:PT} {c c':SW} {x:eS} (h:iS t c=(.ok (some x),c')):(c.any=true->x.1<c.last)/\c'.any=true/\c'.last=x.1:=by
 unfold iS at h
 split at h
 ·cases h
 ·split at h
  ·cases h
  ·cases h
  ·rename_i y c2 hr
   cases h
   exact ln hr
def Sm (k:Int):Prop:=0<k/\k<200
theorem Sm.big {k:Int} (h:Sm k):0<=k/\k<4611686018427387904:=⟨Int.le_of_lt h.1,Int.lt_trans h.2 (by decide)⟩
theorem zY {t:PT} {n:Nat} {k:Int} (h:cn t n=.error k):Sm k:=by
 rcases mU h with rfl | rfl | rfl | rfl <;> exact ⟨by decide,by decide⟩
theorem zZ {t:PT} {k:Int}:∀ {f a l:Nat},fc t f a l=.error k->Sm k
 | 0,a,l,h=>by cases h
 | f+1,a,l,h=>by
  unfold fc at h
  split at h
  ·cases h
  ·split at h
   ·rename_i e he
    cases h
    exact zY he
   ·split at h
    ·cases h
     exact ⟨by decide,by decide⟩
    ·split at h
     ·rename_i e he
      cases h
      exact zZ he
     ·cases h
theorem wK {t:PT} {c:PC} {k:Int} (h:cV t c=.error k):Sm k:=by
 unfold cV at h
 split at h
 ·cases h
 ·split at h
  ·rename_i e he
   cases h
   unfold lw at he
   split at he
   ·cases he
    exact ⟨by decide,by decide⟩
   ·exact zZ he
  ·cases h
theorem z6 {t:PT} {c:SW} {n:Nat} {k:Int} (h:kG t c n=.error k):Sm k:=by
 unfold kG at h
 split at h
 ·cases h
  exact ⟨by decide,by decide⟩
 ·split at h
  ·rename_i e he
   cases h
   exact zY he
  ·split at h
   ·cases h
   ·cases h
    exact ⟨by decide,by decide⟩
theorem ni {t:PT} {lo:Key} {k:Int}:∀ {f n:Nat} {c:SW},bk t f c n lo=.error k->Sm k
 | 0,n,c,h=>by cases h;exact ⟨by decide,by decide⟩
 | f+1,n,c,h=>by
  unfold bk at h
  split at h
  ·rename_i e he
   cases h
   exact z6 he
  ·split at h
   ·cases h
   ·have h2:=ni h;exact h2
theorem nj {t:PT} {lo:Key} {k:Int}:∀ {f n:Nat} {c:SW},bm t f c n lo=.error k->Sm k
 | 0,n,c,h=>by cases h;exact ⟨by decide,by decide⟩
 | f+1,n,c,h=>by
  unfold bm at h
  split at h
  ·rename_i e he
   cases h
   exact z6 he
  ·split at h
   ·cases h
   ·have h2:=nj h;exact h2
theorem BQ {t:PT} {c:SW} {x:PC} {k:Int} (h:eD t c x=.error k):Sm k:=by
 unfold eD at h
 split at h
 ·cases h
  exact ⟨by decide,by decide⟩
 ·split at h
  ·rename_i e he
   cases h
   exact wK he
  ·cases h
theorem BR {t:PT} {c:SW} {x:PC} {k:Int} (h:eE t c x=.error k):Sm k:=by
 unfold eE at h
 split at h
 ·cases h
  exact ⟨by decide,by decide⟩
 ·split at h
  ·rename_i e he
   cases h
   exact wK he
  ·cases h
theorem uC {t:PT} {k:Int}:∀ {f:Nat} {c:SW},iI t f c=.error k->Sm k
 | 0,c,h=>by cases h;exact ⟨by decide,by decide⟩
 | f+1,c,h=>by
  unfold iI at h
  split at h
  ·cases h
  ·split at h
   ·have h2:=uC h;exact h2
   ·split at h
    ·split at h
     ·rename_i e he
      cases h
      exact BQ he
     ·cases h
    ·split at h
     ·rename_i e he
      cases h
      exact ni he
     ·have h2:=uC h;exact h2
theorem uD {t:PT} {k:Int}:∀ {f:Nat} {c:SW},iK t f c=.error k->Sm k
 | 0,c,h=>by cases h;exact ⟨by decide,by decide⟩
 | f+1,c,h=>by
  unfold iK at h
  split at h
  ·cases h
  ·split at h
   ·have h2:=uD h;exact h2
   ·split at h
    ·cases h
     exact ⟨by decide,by decide⟩
    ·split at h
     ·split at h
      ·rename_i e he
       cases h
       exact BR he
      ·cases h
     ·split at h
      ·rename_i e he
       cases h
       exact nj he
      ·have h2:=uD h;exact h2
theorem DR {t:PT} {c c':SW} {k:Int} (h:ia t c=(.error k,c')):Sm k:=by
 unfold ia at h
 split at h
 ·cases h
 ·split at h
  ·rename_i e he
   cases h
   exact uC he
  ·cases h
  ·cases h
theorem DT {t:PT} {c c':SW} {k:Int} (h:iS t c=(.error k,c')):Sm k:=by
 unfold iS at h
 split at h
 ·cases h
 ·split at h
  ·rename_i e he
   cases h
   exact uD he
  ·cases h
  ·cases h
theorem sJ {t:PT} {hi:Key} {k:Int}:∀ {f:Nat} {c:SW} {n:Nat},iJ t hi f c n=.error k->Sm k
 | 0,c,n,h=>by cases h;exact ⟨by decide,by decide⟩
 | f+1,c,n,h=>by
  unfold iJ at h
  split at h
  ·rename_i e c2 he
   cases h
   exact DR he
  ·cases h
  ·split at h
   ·cases h
   ·exact sJ h
theorem Fj {t:PT} {lo hi:Key} {k:Int} (h:BJ t lo hi=.error k):Sm k:=by
 unfold BJ at h
 split at h
 ·rename_i e he
  cases h
  exact ni he
 ·exact sJ h
theorem yF {t:PT} {hi:Key} {k:Int} (h:oM t hi=.error k):Sm k:=nj h
end Go.Proofs.YtgohffhoapkeaaaGreatDoor
namespace Go.Proofs.YtgohffhoapkeaaaGreatDoor.Ev
open Go.RowKit Go.Extern
variable {ω:Nat->Value}
theorem SR.below {B:Nat} {X:cK} {m:M ω} {s:AS} {w w':World} (h:SR B X m s w) (hb:Below w.heap.size w w'):SR B X m s w' :=
 ⟨fun b o i h1 h2 h3=>by
  obtain ⟨r1,r2,r3⟩:=h.rel b o i h1 h2 h3
  exact ⟨r1.other (hb.block i.r r3),r2,lT r3 hb.size⟩,
  h.inj,h.freshH,h.freshM,h.gh,
  fun r o hk=>by
   obtain ⟨k1,k2,k3⟩:=h.kp r o hk
   exact ⟨(hb.block r (aS.1 k1).1).trans k1,k2,k3⟩,
  fun b i hm=>lT (h.lt b i hm) hb.size⟩
theorem DU (w:World):SR (ω:=ω) w.heap.size ⟨fun _=>none,fun _=>none⟩ (fun _=>none) ⟨0,.leaf⟩ w :=
 ⟨fun b o i h1=>(by cases h1),fun b c o p i j h1=>(by cases h1),fun b _=>rfl,fun b _=>rfl,fun b o h1=>(by cases h1),fun r o h1=>(by cases h1),fun b i h1=>(by cases h1)⟩
def lp (C:Ctx):Prop:=C.glob=globT/\∀ g cs,FO g=some cs->C.iv g=some cs
def uE (v:Value):mC
 | [],s=>some (v,s)
 | _,_=>none
def noRd (_:Nat):Bool:=false
noncomputable def CX (ext:List (FuncId × mC)) (fs:List Fact) (ls:List (TypeId × Nat × Nat)) (cnv:TypeId->TypeId->Value->Option Value) (rd:Nat->Bool):Ctx:=CT (fun g=>qA (ext++IK) g) globT zQ fs ls cnv rd
theorem cxOK (hh:Hands ω) {ext:List (FuncId × mC)} (he:∀ p∈ext,∀ C:Ctx,C.P=Tryz.prog->lp C->gj ω C p.1 p.2) {fs:List Fact} (hf:∀ f∈fs,f.ok ω Tryz.prog) {ls:List (TypeId × Nat × Nat)} (hl:∀ f∈ls,zN ω Tryz.prog f) {cnv:TypeId->TypeId->Value->Option Value}
 (hc:∀ src dst x v,cnv src dst x=some v->∀ (m:M ω) (x':Value) (w:World),VRel m x x'->∃ v',(convert src dst x').run Tryz.prog w=.ok v' w/\VRel m v v') (rd:Nat->Bool):uJ ω (CX ext fs ls cnv rd) :=
 ⟨H6 _ globT wq hf hl hc rd,mixed,fun g k hk=>nf (Q:=gj ω (CX ext fs ls cnv rd)) (fun p hp=>(List.mem_append.1 hp).elim (fun h=>he p h _ rfl ⟨rfl,fun _ _ h=>h⟩) (fun h=>Dt hh rfl p h)) g k hk⟩
end Go.Proofs.YtgohffhoapkeaaaGreatDoor.Ev
namespace Go.Proofs.YtgohffhoapkeaaaGreatDoor.Ev
open Go.RowKit
variable {ω:Nat->Value} {C:Ctx}
theorem z7 (hC:uJ ω C) {fuel:Nat} {g:FuncId} {v:Value} {vs:List Value} {args:Array Value} {s s':AS} {B:Nat} {X:cK} {m:M ω} {w:World} (h:(ev C fuel).f g vs s=some (v,s')) (hs:SR B X m s w) (hl:LRel m vs args.toList) (hb:Bs ω C B w) (hsp:C.sp g=none) :
 Calls C.P g args w fun e w'=>∃ v',e=.returned v'/\cU B X m s' w v v' w':=by
 have:=((sound hC fuel).2.2.2.1 g vs s v s' h B X m w args hs hl hb).2 hsp;exact callsIn_wide.1 (this.2 0)
noncomputable def Io (w:World) (B r0:Nat):cK:=⟨fun _=>none,fun r=>if r=r0 then none else if B<=r then w.heap[r]? else none⟩
def m1 (ω:Nat->Value) (i:eP):M ω:=fun b=>if b=0 then some i else none
noncomputable def st1 (o:AObj):AS:=⟨1,T.leaf.put 0 o⟩
theorem z8 (o:AObj) (b:Nat):(st1 o).h.get b=if b=0 then some o else none:=by
 show ((T.leaf:T AObj).put 0 o).get b=_;rw [T.get_put]
 split
 ·rfl
 ·rfl
theorem GN {B:Nat} {w:World} {o:AObj} {i:eP} (hr:gD (m1 ω i) w i o) (h1:B<=i.r) (h2:i.r<w.heap.size):SR B (Io w B i.r) (m1 ω i) (st1 o) w:=by
 refine ⟨fun b p j hb ha hm=>?_,fun b c p q i' j hb hc _ _ hne h3 h4=>?_,fun b hb=>?_,fun b hb=>?_,fun b p hb=>(by cases hb),fun r p hb=>?_,fun b j hm=>?_⟩
 ·rw [z8] at hb;unfold m1 at hm;by_cases e:b=0
  ·rw [if_pos e] at hb hm
   cases hb;cases hm
   exact ⟨hr,h1,h2⟩
  ·rw [if_neg e] at hm;cases hm
 ·unfold m1 at h3 h4;by_cases e:b=0
  ·by_cases e':c=0
   ·omega
   ·rw [if_neg e'] at h4;cases h4
  ·rw [if_neg e] at h3;cases h3
 ·rw [z8,if_neg (by have:1<=b:=hb;omega)]
 ·unfold m1;rw [if_neg (by have:1<=b:=hb;omega)]
 ·have hb':(if r=i.r then none else if B<=r then w.heap[r]? else none)=some p:=hb;by_cases e:r=i.r
  ·rw [if_pos e] at hb';cases hb'
  ·rw [if_neg e] at hb';by_cases e2:B<=r
   ·rw [if_pos e2] at hb';refine ⟨hb',e2,fun b j hm=>?_⟩;unfold m1 at hm;by_cases e3:b=0
    ·rw [if_pos e3] at hm;cases hm;exact fun e4=>e e4.symm
    ·rw [if_neg e3] at hm;cases hm
   ·rw [if_neg e2] at hb';cases hb'
 ·unfold m1 at hm;by_cases e:b=0
  ·rw [if_pos e] at hm;cases hm;exact h2
  ·rw [if_neg e] at hm;cases hm
noncomputable def c3 (a b c:Value):T Value:=((T.leaf.put 0 a).put 1 b).put 2 c
theorem Fl (hC:uJ ω C) {fuel:Nat} {g:FuncId} {v:Value} {vs:List Value} {args:Array Value} {o:AObj} {s':AS} {B:Nat} {i:eP} {w:World} (h:(ev C fuel).f g vs (st1 o)=some (v,s')) (hr:gD (m1 ω i) w i o) (h1:B<=i.r) (h2:i.r<w.heap.size)
 (hl:LRel (m1 ω i) vs args.toList) (hb:Bs ω C B w) (hsp:C.sp g=none) :
 Calls C.P g args w fun e w'=>∃ v' m',e=.returned v'/\VRel (m':M ω) v v'/\Fr (fun k=>k=i.r) w w'/\∀ o',s'.h.get 0=some o'->o'.alive=true->gD m' w' i o':=by
 refine (z7 hC h (GN hr h1 h2) hl hb hsp).mono ?_;rintro e w' ⟨v',rfl,m',hle,hs',hv,hbl⟩;refine ⟨v',m',rfl,hv,⟨hbl.os,hbl.tape,hbl.output,hbl.size,fun k hk hne=>?_⟩,fun o' ho ha=>(hs'.rel 0 o' i ho ha (hle 0 i rfl)).1⟩;by_cases hB:k<B
 ·exact hbl.block k hB
 ·obtain ⟨ob,hob⟩:∃ ob,w.heap[k]?=some ob:=⟨_,Array.getElem?_eq_getElem hk⟩
  rw [hob];refine (hs'.kp k ob ?_).1;show (if k=i.r then none else if B<=k then w.heap[k]? else none)=some ob;rw [if_neg hne,if_pos (by omega),hob]
end Go.Proofs.YtgohffhoapkeaaaGreatDoor.Ev
namespace Go.Proofs.YtgohffhoapkeaaaGreatDoor
section
open Go.RowKit
open Ev (ev AS AObj st1 c3 noCnv VRel LRel Hands hBase cxOK globT Fact)
namespace Mc
def no (_:Nat):Bool:=false
def tok (k:Nat):Value:=.chan (some k)
def cnv (a b:TypeId) (x:Value):Option Value:=match x with
 | .chan (some 3)=>cond (Nat.beq a 66 && Nat.beq b 3) (some (.chan (some 3))) none
 | _=>none
def fs:List Fact:=[⟨.neq,tok 0,tok 0,.bool false⟩,⟨.neq,tok 1,tok 1,.bool false⟩]
noncomputable def C1:Ev.Ctx:=Ev.CX [] fs [] cnv no
noncomputable def I6:AObj:=.cells ⟨c3 (tok 0) (.string ⟨#[]⟩) (.iface 66 (tok 3)),3,86,1,false,false⟩
def I7:Value:=.iface 82 (.pointer (some ⟨0,0,none⟩))
def GQ (r:Option (Value × AS)):Bool:=match r with
 | some (.chan (some 3),_)=>true
 | _=>false
end Mc
open Mc
def Aa (op nm op1:ByteArray) (k:Int):Nat->Value
 | 0=>.string op
 | 1=>.string nm
 | 2=>.string op1
 | 3=>.int .i64 k
 | n=>.pointer (some ⟨5,n-hBase,none⟩)
def Ip (c:Array Value) (d:Nat) (x y z:Value):Prop:=c[d]?=some x/\c[d+1]?=some y/\c[d+2]?=some z
def ie (B:Nat) (w:World) (op nm:ByteArray) (k:Int) (v:Value):Prop :=
 (k=0/\v=.nilIface)\/(k≠0/\∃ r d c fz,v=.iface 82 (.pointer (some ⟨r,d,none⟩))/\B<=r/\w.heap[r]?=some (.cells c 86 fz)/\d+3<=c.size/\Ip c d (.string op) (.string nm) (.iface 66 (.int .i64 k))/\(fz=(0,0)\/fz=(c.size,c.size+1)))
theorem cm.w {B:Nat} {w:World} {op nm:ByteArray} {k:Int} {v:Value} (h:cm B w op nm k v):ie B w op nm k v :=
 h.imp id fun ⟨h1,r,e,hB,hr⟩=>⟨h1,r,0,_,_,e,hB,hr,nR _,⟨rfl,rfl,rfl⟩,.inl rfl⟩
theorem ie.keep {B:Nat} {w w':World} {op nm:ByteArray} {k:Int} {v:Value} (h:ie B w op nm k v) (hk:∀ r,B<=r->r<w.heap.size->w'.heap[r]?=w.heap[r]?):ie B w' op nm k v :=
 h.imp id fun ⟨h1,r,d,c,fz,e,hB,hr,hz⟩=>⟨h1,r,d,c,fz,e,hB,(hk r hB (aS.1 hr).1).trans hr,hz⟩
theorem ie.below {B:Nat} {w w':World} {op nm:ByteArray} {k:Int} {v:Value} (h:ie B w op nm k v) (hb:Below w.heap.size w w'):ie B w' op nm k v:=h.keep fun r _ hl=>hb.block r hl
def DV (v:Value):Nat->Prop:=fun j=>∃ d,v=.iface 82 (.pointer (some ⟨j,d,none⟩))
theorem ie.keepAt {B:Nat} {w w':World} {op nm:ByteArray} {k:Int} {v:Value} (h:ie B w op nm k v) (hk:∀ r,DV v r->w'.heap[r]?=w.heap[r]?):ie B w' op nm k v :=
 h.imp id fun ⟨h1,r,d,c,fz,e,hB,hr,hz⟩=>⟨h1,r,d,c,fz,e,hB,(hk r ⟨d,e⟩).trans hr,hz⟩
theorem ie.rng {B:Nat} {w:World} {op nm:ByteArray} {k:Int} {v:Value} (h:ie B w op nm k v):∀ r,DV v r->B<=r/\r<w.heap.size:=by
 rintro r ⟨d,e⟩
 rcases h with ⟨_,h⟩ | ⟨_,r',d',c,fz,e',hB,hr,_⟩
 ·rw [h] at e;cases e
 ·rw [e'] at e;cases e;exact ⟨hB,(aS.1 hr).1⟩
section
variable {op nm op1:ByteArray} {k:Int}
theorem DW:Hands (Aa op nm op1 k):=fun t=>by
 have:hBase+t=(hBase+t-4)+4:=by unfold hBase;omega
 rw [this];show Value.pointer (some ⟨5,hBase+t-4+4-hBase,none⟩)=_;rw [show hBase+t-4+4-hBase=t by unfold hBase;omega]
theorem Iq:∀ f∈fs,f.ok (Aa op nm op1 k) Tryz.prog:=by
 intro f hf;simp only [fs,List.mem_cons,List.not_mem_nil,or_false] at hf
 rcases hf with rfl | rfl
 ·exact Fact.strNeq (ω:=Aa op nm op1 k) (s:=op) (u:=op) rfl rfl rfl rfl (by simp)
 ·exact Fact.strNeq (ω:=Aa op nm op1 k) (s:=nm) (u:=nm) rfl rfl rfl rfl (by simp)
theorem yG {k:Int} (hk:0<=k/\k<4611686018427387904) (w:World):(convert 66 3 (.int .i64 k)).run Tryz.prog w=.ok (.int .i64 k) w:=by
 have hw:IntKind.i64.wrap k=k:=by rw [IntKind.wrap_i64];omega
 simp [convert,run_underlying Tryz.underlying66,run_underlying Tryz.underlying3,Conv.intToInt,hw]
theorem GR (hk:0<=k/\k<4611686018427387904):∀ src dst x v,cnv src dst x=some v->∀ (m:Ev.M (Aa op nm op1 k)) (x':Value) (w:World),VRel m x x'->∃ v',(convert src dst x').run Tryz.prog w=.ok v' w/\VRel m v v':=by
 intro src dst x v hv m x' w hx;unfold cnv at hv
 split at hv
 ·cases hb:(Nat.beq src 66 && Nat.beq dst 3) with
  | false=>rw [hb] at hv;cases hv
  | true =>
   rw [hb] at hv
   cases hv
   rw [Bool.and_eq_true] at hb;have e1:=bE hb.1;have e2:=bE hb.2;subst e1 e2;obtain rfl:=Ev.ma hx;exact ⟨_,yG hk w,.tok 3 rfl⟩
 ·cases hv
theorem Ir (hk:0<=k/\k<4611686018427387904):Ev.uJ (Aa op nm op1 k) C1:=cxOK DW (fun p hp=>by cases hp) Iq (fun f hf=>by cases hf) (GR hk) no
theorem Jj {w:World} (hg:ay w) (ht:aH w):Ev.Bs (Aa op nm op1 k) C1 (2+1) w:=by
 have h1:2<w.heap.size:=dQ ht;refine ⟨h1,fun g v h=>⟨?_,(zS DW hg g v h).2⟩,(fun k h=>by cases h),fun g cs h=>?_⟩
 ·have h':globT g=some v:=h;unfold globT at h'
  cases hb:Nat.beq g 0 with
  | false=>rw [hb] at h';cases h'
  | true=>have:=bE hb;omega
 ·have h':Ev.FO g=some cs:=h;unfold Ev.FO at h'
  cases hb:Nat.beq g 2 with
  | false=>rw [hb] at h';cases h'
  | true =>
   have:=bE hb;subst this;rw [hb] at h';refine ⟨by omega,?_⟩;unfold aH at ht
   split at ht
   ·rename_i cs' t fz he
    cases ht
    cases h'
    exact ⟨t,fz,he⟩
   ·cases ht
theorem GT {w:World} {r d:Nat} {fz:Nat × Nat} {cs:Array Value} {a b c a' b' c':Value} (h:w.heap[r]?=some (.cells cs 86 fz)) (hd:d+3<=cs.size) (hc:Ip cs d a' b' c') (hz:fz=(0,0)\/fz=(cs.size,cs.size+1)) (ha:VRel (Ev.m1 (Aa op nm op1 k) ⟨r,d,3,1,false,cs.size⟩) a a') (hb:VRel (Ev.m1 (Aa op nm op1 k) ⟨r,d,3,1,false,cs.size⟩) b b') (hcc:VRel (Ev.m1 (Aa op nm op1 k) ⟨r,d,3,1,false,cs.size⟩) c c') :
 Ev.gD (Ev.m1 (Aa op nm op1 k) ⟨r,d,3,1,false,cs.size⟩) w ⟨r,d,3,1,false,cs.size⟩ (.cells ⟨c3 a b c,3,86,1,false,false⟩):=by
 refine ⟨rfl,rfl,rfl,hd,_,_,h,rfl,fun j hj=>?_,hz.imp id fun e=>⟨e,rfl⟩⟩;have hj':j<3:=hj;unfold c3
 match j,hj' with
 | 0,_=>exact ⟨a,a',by simp [Ev.T.get_put],hc.1,ha⟩
 | 1,_=>exact ⟨b,b',by simp [Ev.T.get_put],hc.2.1,hb⟩
 | 2,_=>exact ⟨c,c',by simp [Ev.T.get_put],hc.2.2,hcc⟩
theorem BS {r:Option (Value × AS)} (h:GQ r=true):∃ s,r=some (tok 3,s):=by
 unfold GQ at h
 split at h
 ·exact ⟨_,rfl⟩
 ·cases h
end
end
section
open Go.RowKit
open Ev (ev AS AObj st1 c3 noCnv VRel LRel Hands hBase cxOK globT Fact)
open Mc
theorem Mc.stold_run:GQ ((ev C1 1000).f 19 [I7,tok 0] (st1 I6))=true:=by kernel_rfl
section
variable {op nm op1:ByteArray} {k:Int}
theorem ci {B:Nat} {w:World} (hg:ay w) (ht:aH w) {v:Value} (h:ie B w op ⟨#[]⟩ k v) (hB:2<B) (hk:0<=k/\k<4611686018427387904) :
 Calls Tryz.prog 19 #[v,.string op] w fun e w'=>e=.returned (.int .i64 k)/\Fr (DV v) w w':=by
 rcases h with ⟨rfl,rfl⟩ | ⟨_,r,d,cs,fz,rfl,hr,hb,hd,hcc,hz⟩
 ·go_enter Tryz.func19,Tryz.ntmps19;go_wp2;go_ret;exact ⟨rfl,Fr.refl _ _⟩
 obtain ⟨s,hs⟩:=BS stold_run;refine (Ev.Fl (ω:=Aa op ⟨#[]⟩ ⟨#[]⟩ k) (B:=2+1) (i:=⟨r,d,3,1,false,cs.size⟩) (Ir hk) hs (GT hb hd hcc hz (.tok 0 rfl) (.plain _ rfl) (.iface _ _ _ (.tok 3 rfl))) (by show 2+1<=r;omega) (aS.1 hb).1 (LRel.cons (.iface _ _ _ (.ptr _ _ ⟨rfl,_,rfl,rfl⟩)) (LRel.cons (.tok 0 rfl) (LRel.nil _))) (Jj hg ht) rfl).mono ?_;rintro e w' ⟨v',m',rfl,hv,hf,ho⟩;exact ⟨by rw [Ev.ma hv];rfl,hf.mono (fun j _ e=>by have e:j=r:=e;subst e;exact ⟨d,rfl⟩)⟩
end
theorem ie.fr {B:Nat} {X:Nat->Prop} {w w':World} {op nm:ByteArray} {k:Int} {v:Value} (h:ie B w op nm k v) (hf:Fr X w w') (hX:∀ r,DV v r->¬ X r):ie B w' op nm k v:=h.keepAt fun r hr=>hf.block r (h.rng r hr).2 (hX r hr)
theorem eU {j:Nat} (h:DV .nilIface j):False:=by
 obtain ⟨d,e⟩:=h
 cases e
theorem wL {B:Nat} {w:World} {op nm:ByteArray} {k:Int} {v:Value} (h:ie B w op nm k v) (hk:k≠0):∃ tv pe,v=.iface tv pe:=by
 rcases h with ⟨h9,_⟩ | ⟨_,r,d,c,fz,e9,_⟩
 ·exact absurd h9 hk
 ·exact ⟨_,_,e9⟩
noncomputable def Ab (r:Option (Value × AS)):Option (Value × Nat × (Nat × Nat × Nat) × Option Value × Option Value × Option Value):=match r with
 | some (.tuple cs,s)=>match cs.toList with
  | [x,.iface t (.pointer (some ⟨b,0,none⟩))]=>match s.h.get b with
   | some (.cells k)=>some (x,t,(k.len,k.elem,k.esz),k.c.get 0,k.c.get 1,k.c.get 2)
   | _=>none
  | _=>none
 | _=>none
theorem DX {g:FuncId} {vs:List Value} {args:Array Value} {x:Value} {op:ByteArray} {k:Int} {w:World} (hrun:Ab ((ev C1 1000).f g vs ⟨0,.leaf⟩)=some (x,82,(3,86,0),some (.string op),some (.string ⟨#[]⟩),some (.iface 66 (.int .i64 k)))) (hx:Ev.am x=true) (hk:0<k/\k<4611686018427387904)
 (hl:LRel (ω:=Aa op ⟨#[]⟩ ⟨#[]⟩ k) (fun _=>none) vs args.toList) (hsp:C1.sp g=none) (hg:ay w) (ht:aH w):Calls Tryz.prog g args w fun e w'=>(∃ v,e=.returned (.tuple #[x,v])/\ie w.heap.size w' op ⟨#[]⟩ k v)/\Below w.heap.size w w':=by
 unfold Ab at hrun
 split at hrun
 ·rename_i cs s hr
  split at hrun
  ·rename_i x' t b hcs
   split at hrun
   ·rename_i bl hb;simp only [Option.some.injEq,Prod.mk.injEq] at hrun;obtain ⟨rfl,rfl,⟨h1,h2,h3⟩,h4,h5,h6⟩:=hrun;have hpl:=dQ ht;have hbs:=Jj (op:=op) (nm:=⟨#[]⟩) (op1:=⟨#[]⟩) (k:=k) hg ht
    have hs:Ev.SR (ω:=Aa op ⟨#[]⟩ ⟨#[]⟩ k) w.heap.size ⟨fun _=>none,fun _=>none⟩ (fun _=>none) ⟨0,.leaf⟩ w:=⟨fun b o i h1=>(by cases h1),fun b c o p i j h1=>(by cases h1),fun b _=>rfl,fun b _=>rfl,fun b o h1=>(by cases h1),fun r o h1=>(by cases h1),fun b i h1=>(by cases h1)⟩
    refine (Ev.z7 (Ir (op:=op) (nm:=⟨#[]⟩) (op1:=⟨#[]⟩) ⟨Int.le_of_lt hk.1,hk.2⟩) hr hs hl ⟨nR _,fun g v h=>⟨lT (hbs.gl g v h).1 hpl,(hbs.gl g v h).2⟩,fun k h=>(by cases h),fun g cs h=>⟨lT (hbs.iv g cs h).1 hpl,(hbs.iv g cs h).2⟩⟩ hsp).mono ?_;rintro e w' ⟨v',rfl,m',hle,hs',hv,hbl⟩
    obtain rfl:cs=#[x',.iface 82 (.pointer (some ⟨b,0,none⟩))]:=by
     cases cs
     simp only at hcs;rw [hcs]
    cases hv with
    | plain _ h=>cases h
    | tuple _ cs' hsz h =>
     have e0:=Ev.aK (h 0 (Nat.zero_lt_succ 1)) hx;have e1:=h 1 (Nat.lt_succ_self 1);obtain ⟨l⟩:=cs'
     match l,hsz,e0,e1 with
     | [a,b'],_,e0,e1 =>
      have e0:a=x':=e0;subst e0;have e1:VRel m' (.iface 82 (.pointer (some ⟨b,0,none⟩))) b':=e1
      cases e1 with
      | plain _ h9=>cases h9
      | iface _ _ v'' hv2 =>
       cases hv2 with
       | plain _ h9=>cases h9
       | ptr _ a' ha =>
        obtain ⟨_,i,hi,rfl⟩:=ha;obtain ⟨ho,hB,hlt⟩:=hs'.rel b (.cells bl) i hb rfl hi;obtain ⟨g1,g2,g3,g4,c',fz,g5,g6,g7,g8⟩:=ho;refine ⟨⟨_,rfl,.inr ⟨by omega,i.r,i.d,c',fz,by rw [Nat.add_zero],hB,by rw [g5,h2],by rw [g6,<-h1];exact g4,?_,?_⟩⟩,hbl⟩
        ·have cell:∀ j (u:Value),j<bl.len->bl.c.get j=some u->Ev.am u=true->c'[i.d+j]?=some u:=fun j u hj hu hp=>by
          obtain ⟨v1,v2,k1,k2,k3⟩:=g7 j hj;rw [hu] at k1
          cases k1
          rw [k2,Ev.aK k3 hp]
         refine ⟨cell 0 _ (by omega) h4 rfl,cell 1 _ (by omega) h5 rfl,?_⟩;obtain ⟨v1,v2,k1,k2,k3⟩:=g7 2 (by omega);rw [h6] at k1
         cases k1
         cases k3 with
         | plain _ h9=>cases h9
         | iface _ _ v3 k4=>rw [k2,Ev.aK k4 rfl]
        ·rw [g6];exact g8.imp id fun h=>h.1
   ·cases hrun
  ·cases hrun
 ·cases hrun
theorem Fo:Ab ((ev C1 1000).f 16 [.pointer none,.chan none] ⟨0,.leaf⟩)=some (.pointer none,82,(3,86,0),some (.string ⟨#[98,101,102,111,114,101]⟩),some (.string ⟨#[]⟩),some (.iface 66 (.int .i64 7))):=by kernel_rfl
theorem Fp:Ab ((ev C1 1000).f 18 [.pointer none,.chan none,.chan none] ⟨0,.leaf⟩)=some (.int .i64 0,82,(3,86,0),some (.string ⟨#[99,111,117,110,116]⟩),some (.string ⟨#[]⟩),some (.iface 66 (.int .i64 7))):=by kernel_rfl
theorem yH {W:World} (A:Option Addr) (n c:Nat) (hg:ay W) (ht:aH W):Calls Tryz.prog 16 #[.pointer none,.slice A n c] W fun e w'=>(∃ v,e=.returned (.tuple #[.pointer none,v])/\ie W.heap.size w' ⟨#[98,101,102,111,114,101]⟩ ⟨#[]⟩ 7 v)/\Below W.heap.size W w' :=
 DX Fo rfl (by decide) (LRel.cons (.plain _ rfl) (LRel.cons (.any _ rfl) (LRel.nil _))) rfl hg ht
theorem BU {W:World} (A A2:Option Addr) (n c n2 c2:Nat) (hg:ay W) (ht:aH W):Calls Tryz.prog 18 #[.pointer none,.slice A n c,.slice A2 n2 c2] W fun e w'=>(∃ v,e=.returned (.tuple #[.int .i64 0,v])/\ie W.heap.size w' ⟨#[99,111,117,110,116]⟩ ⟨#[]⟩ 7 v)/\Below W.heap.size W w' :=
 DX Fp rfl (by decide) (LRel.cons (.plain _ rfl) (LRel.cons (.any _ rfl) (LRel.cons (.any _ rfl) (LRel.nil _)))) rfl hg ht
end
end Go.Proofs.YtgohffhoapkeaaaGreatDoor
namespace Go.Proofs.YtgohffhoapkeaaaGreatDoor
open Go.RowKit
attribute [local go_sem] Oper.semAt_some
theorem wM {B:Nat} {w:World} {op nm:ByteArray} {k:Int} {v:Value} (h:cm B w op nm k v) (hk:k≠0):∃ tv pe,v=.iface tv pe:=by
 rcases h with ⟨h9,_⟩ | ⟨_,r,e9,_⟩
 ·exact absurd h9 hk
 ·exact ⟨_,_,e9⟩
theorem aR.low {Z:Nat->Prop} {ty B p T M:Nat} {X Y:Nat->Prop} {w w':World} {t:PT} {A:Option Addr} {cc:Nat} {kA:Option Addr} {kc:Nat} {l:List LX} {s:SW} (h:aR Z ty B p T M X w t A cc kA kc l s) (hf:Fr Y w w') (hY:∀ k,Y k->k<B) (hX:∀ k,X k->¬ Y k) (h0:¬ Y 0) (hp:¬ Y 2):aR Z ty B p T M X w' t A cc kA kc l s:=by
 have hc:=h.cur;have hW:∀ k,Y k->WZ Z B p A k:=fun k hk=>.inl (.inr (hY k hk));refine ⟨h.tx.keep ⟨hf.size,fun k hk hl=>hf.block k hl (hX k hk)⟩,h.xl,h.ok,gI h.g hf h0,h.pow.of fun hl=>hf.block _ hl hp,h.pw,?_⟩;exact ⟨hc.blk.fr hf (fun e=>by have:=hY _ e;have:=hc.lo;omega),hc.lo,⟨fB hc.rows.row (fun ad e=>hf.block ad.block (hc.rows.lo_row ad e).2 (fun e2=>by have:=hY _ e2;have:=(hc.rows.lo_row ad e).1;omega)),fun s hs=>(hc.rows.lv s hs).fr hf hW,hc.rows.sep⟩,ax hc.key hf (fun h0 ad e hh=>hc.keyN h0 ad e (hW _ hh)),hc.keyN,hc.way,hc.few,hc.pg,hc.dir,fun k hk=>lT (hc.zlt k hk) hf.size⟩
theorem DY {t:PT} {c c':SW} {x:eS} (h:iS t c=(.ok (some x),c')):c'.done=c.done:=by
 unfold iS at h
 split at h
 ·cases h
 ·split at h
  ·cases h
  ·cases h
  ·rename_i y c2 hr
   cases h
   exact j7 hr
theorem yI {Z:Nat->Prop} {ty B p T:Nat} {op:ByteArray} {w:World} {A:Option Addr} {t:PT} {c c':SW} {R:Except Int (Option eS)} (hR:iS t c=(R,c')) {e:Ending} {w':World} (h:DL Z ty B p T op w A (R,c') e w') (hn:¬ ∃ x,R=.ok (some x)):∃ v k,e=.returned (.tuple #[zeroV,.bool false,v])/\cm w.heap.size w' op ⟨#[]⟩ k v/\(0<=k/\k<4611686018427387904)/\Fr (RW p A) w w':=by
 obtain ⟨h,hf⟩:=h
 rcases R with k | ⟨_ | x⟩
 ·obtain ⟨v,he,_,hv,_⟩:=h;exact ⟨v,k,he,hv,(DT hR).big,hf⟩
 ·exact ⟨_,0,h.1,.inl ⟨rfl,rfl⟩,by decide,hf⟩
 ·exact absurd ⟨x,rfl⟩ hn
theorem DZ {a b:List UInt8} (h:a<b):Op.bytesLess a b=true:=by
 rw [Proofs.bytesLess_eq];exact dT h
theorem nk.below {w w':World} {A:Option Addr} {ps:List Pt} (h:nk w A ps) (hb:Below w.heap.size w w'):nk w' A ps :=
 ⟨rM (h.row.below hb) hb.size,fun p hp=>⟨rM ((h.each p hp).1.below hb) hb.size,(h.each p hp).2⟩⟩
theorem GU {t:PT} {lo hi:Key} {e:Ending} {B:Nat} {w':World} (h:match BJ t lo hi with
 | .error k=>∃ v,e=.returned (.tuple #[.int .i64 0,v])/\k≠0/\cm B w' ⟨#[99,111,117,110,116]⟩ ⟨#[]⟩ k v
 | .ok n=>e=.returned (.tuple #[.int .i64 (n:Nat),.nilIface])):∃ x v k,e=.returned (.tuple #[x,v])/\cm B w' ⟨#[99,111,117,110,116]⟩ ⟨#[]⟩ k v/\(0<=k/\k<4611686018427387904):=by
 cases hc:BJ t lo hi with
 | error k =>
  rw [hc] at h;obtain ⟨v,rfl,_,hv⟩:=h;exact ⟨_,v,k,rfl,hv,(Fj hc).big⟩
 | ok n =>
  rw [hc] at h;exact ⟨_,_,0,h,.inl ⟨rfl,rfl⟩,by decide⟩
def D2:Prop:=∀ W:World,ay W->aH W->Calls Tryz.prog 10 #[] W fun e w'=>e=.returned (.bool true)/\Below W.heap.size W w'
theorem B8 (HL:D2) {w:World} {A:Option Addr} {c:Nat} {ps:List Pt} {lA hA:Option Addr} (lc hc:Nat) {lo hi:List UInt8} (hg:ay w) (ht:aH w) (hP:nk w A ps) (hpl:ps.length<=9223372036854775807) (hlo:Reads w w.heap.size 1 lA lo.length (bl lo)) (hll:lo.length<=4611686018427387903) (hhi:Reads w w.heap.size 1 hA hi.length (bl hi)) (hhl:hi.length<=4611686018427387903) :
 Calls Tryz.prog 8 #[.slice A ps.length c,.slice lA lo.length lc,.slice hA hi.length hc] w fun e w'=>e=.returned (.bool true)/\Below w.heap.size w w':=by
 have hLw:=HL w hg ht;have HLV:=lH HL;have HP:=lH (aI hP (aI hlo hhi));have HG:=lH (aI hg ht);have hNP:=wI w;clear hP hlo hhi hg ht HL;go_enter Tryz.func8,Tryz.ntmps8;by_cases h24:ps.length<=24
 ·have d1:decide (24<ps.length)=false:=dF (by omega);have d2:decide ((24:Int)<(ps.length:Int))=false:=dF (by omega)
  have ew:IntKind.i64.wrap ((lo.length:Int)+(hi.length:Int))=((lo.length+hi.length:Nat):Int):=by rw [IntKind.wrap_i64];omega
  by_cases h20:lo.length+hi.length<=20000
  ·have d3:decide (20000<lo.length+hi.length)=false:=dF (by omega);have d4:decide ((20000:Int)<((lo.length+hi.length:Nat):Int))=false:=dF (by omega);go_wp2
   go_loop [7] (fun t=>∃ k:Nat,k<=ps.length/\t=.int .i64 k/\∀ j p,j<k->ps[j]?=some p->p.b.length<=600) (fun t=>ps.length-(intOf t).toNat)
   case atStart=>exact ⟨0,zL _,rfl,fun j d hj=>absurd hj (Nat.not_lt_zero _)⟩
   case round =>
    obtain ⟨k,hk,rfl,hsm⟩:=hrel;have HSM:=lH hsm;clear hsm;by_cases hlt:k<ps.length
    ·have d5:decide (k<ps.length)=true:=dT hlt;have d6:decide ((k:Int)<(ps.length:Int))=true:=dT (by omega)
     obtain ⟨p,hp⟩:∃ p,ps[k]?=some p:=⟨_,gE hlt⟩
     obtain ⟨g,o,rfl,hgl,hcl⟩:=lM HP.out.1.row (by rw [List.length_map];omega) (by omega);have c0:w.cell? ⟨g,o+k,none⟩=some (.slice p.A p.b.length p.c):=hcl k _ (by rw [List.getElem?_map,hp];rfl)
     have i0:(0:Int)<=(k:Int):=by omega
     have i1:(k:Int)<(ps.length:Int):=by omega
     have HPP:=lH hp;clear hp hcl;by_cases h600:p.b.length<=600
     ·have d7:decide (600<p.b.length)=false:=dF (by omega);have d8:decide ((600:Int)<(p.b.length:Int))=false:=dF (by omega);go_wp2
      go_round
      case rel=>exact ⟨k+1,by omega,by go_num,fun j d' hj hd'=>by
       by_cases e:j=k
       ·subst e;rw [HPP.out] at hd'
        cases hd'
        exact h600
       ·exact HSM.out j d' (by omega) hd'⟩
      case measure=>simp [intOf];omega
     ·have d7:decide (600<p.b.length)=true:=dT (by omega);have d8:decide ((600:Int)<(p.b.length:Int))=true:=dT (by omega)
      go_wp2_with (first
       | (go_at_call 10;refine hLw.mono ?_;rintro e w3 ⟨rfl,hb3⟩))
      go_ret;exact ⟨rfl,hb3⟩
    ·have d5:decide (k<ps.length)=false:=dF hlt;have d6:decide ((k:Int)<(ps.length:Int))=false:=dF (by omega)
     go_wp2_with (first
      | (
       go_at_call 17;refine hNP.mono ?_;rintro e w2 ⟨rfl,hb2⟩;unfold zeroV ot
       have hb3:Below w.heap.size w (w2.alloc (.cells #[.slice none 0 0,.slice none 0 0] 41)):=hb2.trans (((bR _ w2).alloc (nR _) _).mono hb2.size)
       have hBn:=yH hA hi.length hc (ai HG.out.1 hb3) (aw HG.out.2 hb3))
      | (
       go_at_call 16;refine hBn.mono ?_;rintro e w4 ⟨⟨v4,rfl,hv4⟩,hb4⟩
       obtain ⟨tv4,pv4,rfl⟩:=wL hv4 (by decide);have hb04:Below w.heap.size w w4:=hb3.trans (hb4.mono hb3.size)
       have hCn:=BU lA hA lo.length lc hi.length hc (ai HG.out.1 hb04) (aw HG.out.2 hb04))
      | (
       go_at_call 18;refine hCn.mono ?_;rintro e w5 ⟨⟨v5,rfl,hv5⟩,hb5⟩
       obtain ⟨tv5,pv5,rfl⟩:=wL hv5 (by decide);have hb05:Below w.heap.size w w5:=hb04.trans (hb5.mono hb04.size);have hv45:=hv4.fr (X:=fun _=>False) (Fr.of_below hb5) (fun _ _ h=>h)
       have ht4:=ci (ai HG.out.1 hb05) (aw HG.out.2 hb05) hv45 (lT (dQ HG.out.2) hb3.size) (by decide))
      | (go_at_call 19;refine ht5.mono ?_;clear ht5;rintro e w7 ⟨rfl,hf7⟩)
      | (
       go_at_call 19;refine ht4.mono ?_;clear ht4;rintro e w6 ⟨rfl,hf6⟩
       have hb06:Below w.heap.size w w6:=hb05.trans (hf6.below (B:=w.heap.size) hb05.size (fun j hj=>nT hb3.size (hv4.rng j hj).1));have hv56:=hv5.fr hf6 (fun r hr hj=>by have:=(hv4.rng r hj).2;have:=(hv5.rng r hr).1;omega)
       have ht5:=ci (ai HG.out.1 hb06) (aw HG.out.2 hb06) hv56 (lT (dQ HG.out.2) hb04.size) (by decide))
      )
     have hb07:Below w.heap.size w w7:=hb06.trans ((hf7.below (B:=w.heap.size) hb06.size (fun j hj=>nT hb04.size (hv5.rng j hj).1)).mono (nR _))
     have hB:=AY 9 w7 ((HP.out.1.below hb07).src (aw HG.out.2 hb07) c h24 (fun p hp=>by
      obtain ⟨j,hj⟩:=List.getElem?_of_mem hp
      exact HSM.out j p (by have:=(lS.1 hj).1;omega) hj)) (ai HG.out.1 hb07) (aw HG.out.2 hb07)
     cases hbt:kK (ps.map Pt.b) 9 with
     | error kk =>
      rw [hbt] at hB;have hk9:=CV hbt;clear hbt
      go_wp2_with (first
       | (
        go_at_call 20;refine hB.mono ?_;rintro e w8 ⟨⟨v,rfl,hv⟩,hb8⟩;obtain ⟨tv,pv,rfl⟩:=wM hv hk9
        have hb08:=hb07.trans (hb8.mono hb07.size)
        have hL3:=HLV.out w8 (ai HG.out.1 hb08) (aw HG.out.2 hb08))
       | (go_at_call 10;refine hL3.mono ?_;rintro e w9 ⟨rfl,hb9⟩))
      go_ret;exact ⟨rfl,hb08.trans (hb9.mono hb08.size)⟩
     | ok t =>
      rw [hbt] at hB;have ok:=CY (by decide) hbt;have HOK:=lH ok;clear hbt ok
      have h3000:lo.length<=3000000/\hi.length<=3000000:=by omega
      go_wp2_with (first
       | (
        go_at_call 20;refine hB.mono ?_;clear hB;rintro e w8 ⟨⟨T,M,rfl,hT8,hTl,hMl⟩,hb8⟩
        have hb08:=hb07.trans (hb8.mono hb07.size)
        obtain ⟨X8,hX8,HT8⟩:∃ X,(∀ k,X k->k<w8.heap.size)/\Hid (TX X w8 T M t):=⟨_,fun k hk=>hk.2,lH hT8.cut⟩
        have hlo8:Reads w8 w8.heap.size 1 lA lo.length (bl lo):=rM (HP.out.2.1.below hb08) hb08.size;have hhi8:Reads w8 w8.heap.size 1 hA hi.length (bl hi):=rM (HP.out.2.2.below hb08) hb08.size
        have hCt:=BP HT8.out hX8 HOK.out (ai HG.out.1 hb08) (aw HG.out.2 hb08) lc hc hlo8 h3000.1 hhi8 h3000.2)
       | (
        go_at_call 18;refine hCt.mono ?_;clear hCt;rintro e w9 ⟨hcr,hb9⟩
        obtain ⟨x9,v9,k9,rfl,hv9,hk9⟩:∃ x v k,e=.returned (.tuple #[x,v])/\cm w8.heap.size w9 ⟨#[99,111,117,110,116]⟩ ⟨#[]⟩ k v/\(0<=k/\k<4611686018427387904):=GU hcr;have hb09:=hb08.trans (hb9.mono hb08.size);have HT9:=lH (HT8.out.keep (co.of_below hb9));have hhi9:Reads w9 w9.heap.size 1 hA hi.length (bl hi):=rM (HP.out.2.2.below hb09) hb09.size
        have hBf:=wE HT9.out (fun k hk=>lT (hX8 k hk) hb9.size) HOK.out (ai HG.out.1 hb09) (aw HG.out.2 hb09) hc hhi9 h3000.2))
      have hpw:=dQ HG.out.2;have HV9:=lH (aI hv9.w hk9);have hk9n:decide (k9<0)=false:=dF (by omega);clear hv9 hk9
      cases hbf:oM t hi with
      | error kb =>
       rw [hbf] at hBf;have HKB:=lH (yF hbf).big;have hkbn:decide (kb<0)=false:=dF (by have:=HKB.out;omega);clear hbf
       go_wp2_with (first
        | (
         go_at_call 16;refine hBf.mono ?_;clear hBf;rintro e w10 ⟨⟨v10,rfl,hk10,hv10⟩,hb10⟩
         obtain ⟨tv10,pv10,rfl⟩:=wM hv10 hk10;have hv10:=hv10.w;have hb010:=hb09.trans (hb10.mono hb09.size)
         have ht9:=ci (ai HG.out.1 hb010) (aw HG.out.2 hb010) (HV9.out.1.fr (X:=fun _=>False) (Fr.of_below hb10) (fun _ _ h=>h)) (lT hpw hb08.size) HV9.out.2)
        | (go_at_call 19;refine ht10.mono ?_;clear ht10;rintro e w12 ⟨rfl,hf12⟩)
        | (
         go_at_call 19;refine ht9.mono ?_;clear ht9;rintro e w11 ⟨rfl,hf11⟩
         have hb011:Below w.heap.size w w11:=hb010.trans (hf11.below (B:=w.heap.size) hb010.size (fun j hj=>nT hb08.size (HV9.out.1.rng _ hj).1))
         have ht10:=ci (ai HG.out.1 hb011) (aw HG.out.2 hb011) (hv10.fr hf11 (fun r hr hj=>by have:=(HV9.out.1.rng _ hj).2;have:=(hv10.rng r hr).1;omega)) (lT hpw hb09.size) HKB.out))
       have hb012:Below w.heap.size w w12:=hb011.trans (hf12.below (B:=w.heap.size) hb011.size (fun j hj=>nT hb09.size (hv10.rng _ hj).1))
       go_loopw [19,20] (fun la n wr=>n=.int .i64 0/\la=.string ⟨#[]⟩/\Below w.heap.size w wr) (fun _ n wr=>500-(intOf n).toNat)
       case atStart=>exact ⟨rfl,rfl,hb012⟩
       case round =>
        obtain ⟨rfl,rfl,hb⟩:=hrel
        obtain ⟨wo,rfl⟩:∃ wo,wo=wr:=⟨wr,rfl⟩
        have hNP:=wI wo
        go_wp2_with (first
         | (
          go_at_call 17;refine hNP.mono ?_;rintro e w13 ⟨rfl,hb13⟩;unfold zeroV ot
          have hb14:Below w.heap.size w (w13.alloc (.cells #[.slice none 0 0,.slice none 0 0] 41)):=hb.trans ((hb13.trans (((bR _ w13).alloc (nR _) _).mono hb13.size)).mono hb.size)
          have ht13:=ci (op:=⟨#[112,114,101,118]⟩) (B:=w.heap.size) (ai HG.out.1 hb14) (aw HG.out.2 hb14) (v:=.nilIface) (k:=0) (.inl ⟨rfl,rfl⟩) hpw (by decide))
         | (
          go_at_call 19;refine ht13.mono ?_;rintro e w15 ⟨rfl,hf15⟩
          have hb15:Below w.heap.size w w15:=hb14.trans (hf15.below (B:=w.heap.size) hb14.size (fun j hj=>(eU hj).elim))
          have hL15:=HLV.out w15 (ai HG.out.1 hb15) (aw HG.out.2 hb15))
         | (go_at_call 10;refine hL15.mono ?_;rintro e w16 ⟨rfl,hb16⟩))
        go_ret;exact ⟨rfl,hb15.trans (hb16.mono hb15.size)⟩
      | ok s0 =>
       rw [hbf] at hBf;clear hbf
       go_wp2_with (first
        | (
         go_at_call 16;refine hBf.mono ?_;clear hBf;rintro e w10 ⟨⟨p,A10,cc10,kA10,kc10,l10,rfl,hC10,hd10⟩,hb10⟩
         have hb010:=hb09.trans (hb10.mono hb09.size);have HE10:=lH (⟨HT9.out.keep (co.of_below hb10),fun k hk=>lT (hX8 k hk) hb9.size,HOK.out,ai HG.out.1 hb010,aw HG.out.2 hb010,lT hpw hb09.size,hC10⟩:aR Z0 81 w9.heap.size p T M X8 w10 t A10 cc10 kA10 kc10 l10 s0);have HD10:=lH hd10;clear hd10 hC10
         have ht9:=ci (ai HG.out.1 hb010) (aw HG.out.2 hb010) (HV9.out.1.fr (X:=fun _=>False) (Fr.of_below hb10) (fun _ _ h=>h)) (lT hpw hb08.size) HV9.out.2)
        | (go_at_call 19;refine ht10.mono ?_;clear ht10;rintro e w12 ⟨rfl,hf12⟩)
        | (
         go_at_call 19;refine ht9.mono ?_;clear ht9;rintro e w11 ⟨rfl,hf11⟩
         have hb011:Below w.heap.size w w11:=hb010.trans (hf11.below (B:=w.heap.size) hb010.size (fun j hj=>nT hb08.size (HV9.out.1.rng _ hj).1))
         have ht10:=ci (op:=⟨#[98,101,102,111,114,101]⟩) (B:=w.heap.size) (ai HG.out.1 hb011) (aw HG.out.2 hb011) (v:=.nilIface) (k:=0) (.inl ⟨rfl,rfl⟩) hpw (by decide)))
       have hb012:Below w.heap.size w w12:=hb011.trans (hf12.below (B:=w.heap.size) hb011.size (fun j hj=>(eU hj).elim));have h89:=hb9.size;have h08:=hb08.size;have hE11:=HE10.out.low hf11 (fun k hk=>(HV9.out.1.rng _ hk).2) (fun k hk e=>by have:=hX8 k hk;have:=(HV9.out.1.rng _ e).1;omega) (fun e=>by have:=(HV9.out.1.rng _ e).1;omega) (fun e=>by have:=(HV9.out.1.rng _ e).1;omega);have hE12:=hE11.low hf12 (fun k hk=>(eU hk).elim) (fun k _ e=>eU e) eU eU
       go_loopw [19,20] (fun la n wr=>∃ (i:Nat) (lb:List UInt8) (A:Option Addr) (cc:Nat) (kA:Option Addr) (kc:Nat) (lx:List LX) (s:SW),la=.string ⟨lb.toArray⟩/\n=.int .i64 i/\i<=500/\aR Z0 81 w9.heap.size p T M X8 wr t A cc kA kc lx s/\s.done=false/\(0<i->s.any=true/\s.last=lb)/\Below w.heap.size w wr) (fun _ n wr=>500-(intOf n).toNat)
       case atStart=>exact ⟨0,[],_,_,_,_,_,_,rfl,rfl,by decide,hE12,HD10.out,fun h=>absurd h (Nat.lt_irrefl 0),hb012⟩
       case round =>
        obtain ⟨i,lb,A,cc,kA,kc,lx,s,rfl,rfl,hi5,hE,hd,hany,hb⟩:=hrel
        obtain ⟨wo,rfl⟩:∃ wo,wo=wr:=⟨wr,rfl⟩
        clear hE11 hE12;have hPv:=BO hE hE.cur.mu hd;have hRW:=RW.lo hE.cur;have HR:=lH (aI hE (aI hd (aI hany hb)));clear hE hd hany;by_cases hlt:i<500
        ·have d5:decide (i<500)=true:=dT hlt;have d6:decide ((i:Int)<500)=true:=dT (by omega)
         obtain ⟨rr,s2,HPT⟩:∃ r s2,Hid (iS t s=(r,s2)):=⟨_,_,lH rfl⟩
         rw [HPT.out] at hPv;by_cases hs:∃ x,rr=.ok (some x)
         ·obtain ⟨⟨key,val⟩,rfl⟩:=hs;have hfa:=wJ HPT.out;have hdn:=DY HPT.out;have hge:0<i->Op.bytesLess key lb=true:=fun h0=>DZ (by obtain ⟨h1,h2⟩:=HR.out.2.2.1 h0;rw [<-h2];exact hfa.1 h1);have HF:=lH (aI hfa (aI hdn hge));clear hfa hdn hge;by_cases h0:0<i
          ·have d7:decide (0<i)=true:=dT h0;have d8:decide ((0:Int)<(i:Int))=true:=dT (by omega);have hge:=HF.out.2.2 h0
           go_wp2_with (first
            | (
             go_at_call 17;refine hPv.mono ?_;clear hPv;rintro e w13 ⟨⟨k2,c2,vA,vc,rfl,hl2,hr2,A2,cc2,l2,hC2,hAR2,hN2⟩,hF13⟩;unfold ot
             have hb13:Below w.heap.size w w13:=hb.trans (hF13.below hb.size (fun k hk=>by have:=hRW k hk;omega));have hbA:Below w13.heap.size w13 (w13.alloc (.cells #[.slice k2 key.length c2,.slice vA val.length vc] 41)):=(bR _ w13).alloc (nR _) _;have hb14:=hb13.trans (hbA.mono hb13.size);have hX14:aa (w13.alloc (.cells #[.slice k2 key.length c2,.slice vA val.length vc] 41)) w13.heap.size 41 #[.slice k2 key.length c2,.slice vA val.length vc]:=aa.new _ _ _;have HE13:=lH (HR.out.1.next hF13 hC2);have hk2:=hC2.key;rw [hl2] at hk2;have hk14:Reads _ _ 1 k2 key.length (bl key):=rM (hk2.below hbA) hbA.size;have ht13:=ci (op:=⟨#[112,114,101,118]⟩) (B:=w.heap.size) (ai HG.out.1 hb14) (aw HG.out.2 hb14) (v:=.nilIface) (k:=0) (.inl ⟨rfl,rfl⟩) hpw (by decide)
             clear hC2 hr2 hN2 hk2)
            | (
             go_at_call 19;refine ht13.mono ?_;rintro e w15 ⟨rfl,hf15⟩
             have hbT:Below (w13.alloc (.cells #[.slice k2 key.length c2,.slice vA val.length vc] 41)).heap.size (w13.alloc (.cells #[.slice k2 key.length c2,.slice vA val.length vc] 41)) w15:=hf15.below (nR _) (fun j hj=>(eU hj).elim);have hb15:Below w.heap.size w w15:=hb14.trans (hbT.mono hb14.size);have x15:w15.cell? ⟨w13.heap.size,0,none⟩=some (.slice k2 key.length c2):=(hX14.below hbT hX14.lt).cell 0;have k15:=hk14.below hbT;have cv:=ir c2 k15
             have HE15:=lH ((HE13.out.next (Fr.of_below (hbA.trans (hbT.mono hbA.size))) (HE13.out.cur.below (hbA.trans (hbT.mono hbA.size)))))))
           exact ⟨⟨i+1,key,A2,cc2,k2,c2,l2,s2,rfl,by go_num,by omega,HE15.out,HF.out.2.1.trans HR.out.2.1,fun _=>HF.out.1.2,hb15⟩,by simp [intOf];omega⟩
          ·have d7:decide (0<i)=false:=dF h0;have d8:decide ((0:Int)<(i:Int))=false:=dF (by omega)
           go_wp2_with (first
            | (
             go_at_call 17;refine hPv.mono ?_;clear hPv;rintro e w13 ⟨⟨k2,c2,vA,vc,rfl,hl2,hr2,A2,cc2,l2,hC2,hAR2,hN2⟩,hF13⟩;unfold ot
             have hb13:Below w.heap.size w w13:=hb.trans (hF13.below hb.size (fun k hk=>by have:=hRW k hk;omega));have hbA:Below w13.heap.size w13 (w13.alloc (.cells #[.slice k2 key.length c2,.slice vA val.length vc] 41)):=(bR _ w13).alloc (nR _) _;have hb14:=hb13.trans (hbA.mono hb13.size);have hX14:aa (w13.alloc (.cells #[.slice k2 key.length c2,.slice vA val.length vc] 41)) w13.heap.size 41 #[.slice k2 key.length c2,.slice vA val.length vc]:=aa.new _ _ _;have HE13:=lH (HR.out.1.next hF13 hC2);have hk2:=hC2.key;rw [hl2] at hk2;have hk14:Reads _ _ 1 k2 key.length (bl key):=rM (hk2.below hbA) hbA.size;have ht13:=ci (op:=⟨#[112,114,101,118]⟩) (B:=w.heap.size) (ai HG.out.1 hb14) (aw HG.out.2 hb14) (v:=.nilIface) (k:=0) (.inl ⟨rfl,rfl⟩) hpw (by decide)
             clear hC2 hr2 hN2 hk2)
            | (
             go_at_call 19;refine ht13.mono ?_;rintro e w15 ⟨rfl,hf15⟩
             have hbT:Below (w13.alloc (.cells #[.slice k2 key.length c2,.slice vA val.length vc] 41)).heap.size (w13.alloc (.cells #[.slice k2 key.length c2,.slice vA val.length vc] 41)) w15:=hf15.below (nR _) (fun j hj=>(eU hj).elim);have hb15:Below w.heap.size w w15:=hb14.trans (hbT.mono hb14.size);have x15:w15.cell? ⟨w13.heap.size,0,none⟩=some (.slice k2 key.length c2):=(hX14.below hbT hX14.lt).cell 0;have k15:=hk14.below hbT;have cv:=ir c2 k15
             have HE15:=lH ((HE13.out.next (Fr.of_below (hbA.trans (hbT.mono hbA.size))) (HE13.out.cur.below (hbA.trans (hbT.mono hbA.size)))))))
           exact ⟨⟨i+1,key,A2,cc2,k2,c2,l2,s2,rfl,by go_num,by omega,HE15.out,HF.out.2.1.trans HR.out.2.1,fun _=>HF.out.1.2,hb15⟩,by simp [intOf];omega⟩
         ·have hn:=lH hs;clear hs
          go_wp2_with (first
           | (
            go_at_call 17;refine hPv.mono ?_;clear hPv;rintro e w13 hh;obtain ⟨v13,k13,rfl,hv13,hk13,hF13⟩:=yI HPT.out hh hn.out;unfold zeroV ot
            have hkn:decide (k13<0)=false:=dF (by omega);have HK:=lH hk13;clear hk13 hh;have hb13:Below w.heap.size w w13:=hb.trans (hF13.below hb.size (fun k hk=>by have:=hRW k hk;omega));have hbA:Below w13.heap.size w13 (w13.alloc (.cells #[.slice none 0 0,.slice none 0 0] 41)):=(bR _ w13).alloc (nR _) _;have hb14:=hb13.trans (hbA.mono hb13.size);have hv14:=hv13.w.below hbA
            have ht13:=ci (ai HG.out.1 hb14) (aw HG.out.2 hb14) hv14 (lT hpw hb.size) HK.out)
           | (
            go_at_call 19;refine ht13.mono ?_;rintro e w15 ⟨rfl,hf15⟩
            have hb15:Below w.heap.size w w15:=hb14.trans (hf15.below (B:=w.heap.size) hb14.size (fun j hj=>nT hb.size (hv14.rng _ hj).1))
            have hL15:=HLV.out w15 (ai HG.out.1 hb15) (aw HG.out.2 hb15))
           | (go_at_call 10;refine hL15.mono ?_;rintro e w16 ⟨rfl,hb16⟩))
          go_ret;exact ⟨rfl,hb15.trans (hb16.mono hb15.size)⟩
        ·have d5:decide (i<500)=false:=dF hlt;have d6:decide ((i:Int)<500)=false:=dF (by omega);have hL9:=HLV.out wo (ai HG.out.1 hb) (aw HG.out.2 hb)
         go_wp2_with (first
          | (go_at_call 10;refine hL9.mono ?_;rintro e w16 ⟨rfl,hb16⟩))
         go_ret;exact ⟨rfl,hb.trans (hb16.mono hb.size)⟩
  ·have d3:decide (20000<lo.length+hi.length)=true:=dT (by omega);have d4:decide ((20000:Int)<((lo.length+hi.length:Nat):Int))=true:=dT (by omega)
   go_wp2_with (first
    | (go_at_call 10;refine hLw.mono ?_;rintro e w3 ⟨rfl,hb3⟩))
   go_ret;exact ⟨rfl,hb3⟩
 ·have d1:decide (24<ps.length)=true:=dT (by omega);have d2:decide ((24:Int)<(ps.length:Int))=true:=dT (by omega)
  go_wp2_with (first
   | (go_at_call 10;refine hLw.mono ?_;rintro e w3 ⟨rfl,hb3⟩))
  go_ret;exact ⟨rfl,hb3⟩
end Go.Proofs.YtgohffhoapkeaaaGreatDoor
namespace Go.Proofs.YtgohffhoapkeaaaGreatDoor.Ev
open Go.RowKit
noncomputable section
abbrev yJ:=Ctx->T Value->AS->Option (R × AS)
def BV (f:Fn) (fs cs:Array Operand):yJ:=match f with
 | .func g=>dE g fs cs
 | _=>jh
def D3 (_:TypeId) (r:Option Operand):yJ:=match r with
 | none=>rf gU
 | some _=>jh
def r1 {α:Type} (_:α):yJ:=jh
def r2 {α β:Type} (_:α) (_:β):yJ:=jh
def r3 {α β γ:Type} (_:α) (_:β) (_:γ):yJ:=jh
def r4 {α β γ δ:Type} (_:α) (_:β) (_:γ) (_:δ):yJ:=jh
def GV (t:TypeId):yJ:=rf (lU t)
def I8 (t:TypeId) (x:Operand):yJ:=rf (sg t x)
def wN (t:TypeId) (n:Nat) (ps:Array (Nat × Operand)):yJ:=rf (cL t n ps)
def I9 (op:BinOp) (t:TypeId) (x y:Operand) (_:TypeId):yJ:=jN op t x y
def Jt (op:UnOp) (_:TypeId) (x:Operand):yJ:=mZ op x
def yK (t:TypeId) (l c:Operand):yJ:=rf (dK t l c)
def Fq (x:Operand) (_:TypeId) (t:TypeId) (ok:Bool):yJ:=b6 x t ok
def Is (op:Op):yJ :=
 Op.rec (motive:=fun _=>yJ) iB iB mW GV I8 jM wN cC mY lV r1 r1 ef I9 Jt cM r2 bz BV D3 r2 yK jO dL jP dM jQ gV cC r3 r4 lX pV l4 Fq fC kU r1 r1 r1 r2 r3 r2 op
theorem Fs (op:Op):Is op=xX op:=by
 cases op
 case makeFunc f _ _=>cases f <;> rfl
 case makeMap _ r=>cases r <;> rfl
 all_goals rfl
abbrev dV:=Option (T Value × AS)
abbrev qR:=bL->Nat->List Oper->List Oper->Option Tmp->T Value->dV
def aN:qR:=fun _ _ _ _ _ _=>none
def pN (_:Value) (a:T Value) (s:AS) (ih:bL) (n:Nat) (all os:List Oper):dV:=ih.o n all os a s
def Iu (_:Tmp) (_:Value) (_:T Value) (_:AS) (_:bL) (_:Nat) (_ _:List Oper):dV:=none
def fS9 (t:Tmp) (v:Value) (a:T Value) (s:AS) (ih:bL) (n:Nat) (all os:List Oper):dV:=ih.o n all os (a.put t v) s
def pS (t:Tmp) (v:Value) (a:T Value) (s:AS) (ih:bL) (n:Nat) (all os:List Oper):dV :=
 Bool.rec (motive:=fun _=>Tmp->Value->T Value->AS->bL->Nat->List Oper->List Oper->dV) Iu fS9 (Nat.blt t n) t v a s ih n all os
def wO (d:Option Tmp) (v:Value) (a:T Value) (s:AS) (ih:bL) (n:Nat) (all os:List Oper):dV :=
 Option.rec (motive:=fun _=>Value->T Value->AS->bL->Nat->List Oper->List Oper->dV) pN pS d v a s ih n all os
def Ja (v:Value) (s:AS) (ih:bL) (n:Nat) (all os:List Oper) (d:Option Tmp) (a:T Value):dV:=wO d v a s ih n all os
def Iv (s:AS) (ih:bL) (n:Nat) (all os:List Oper) (d:Option Tmp) (a:T Value):dV:=wO d undef a s ih n all os
def cS (p:Value × AS) (ih:bL) (n:Nat) (all os:List Oper) (d:Option Tmp) (a:T Value):dV:=wO d p.1 a p.2 ih n all os
def Iw (g:FuncId) (vs:List Value) (s:AS) (ih:bL) (n:Nat) (all os:List Oper) (d:Option Tmp) (a:T Value):dV :=
 Option.rec (motive:=fun _=>qR) aN cS (ih.f g vs s) ih n all os d a
def GX (l:Nat) (vs:List Value) (s:AS) (ih:bL) (n:Nat) (all os:List Oper) (d:Option Tmp) (a:T Value):dV :=
 Option.rec (motive:=fun _=>qR) aN cS (p5 ih l vs s) ih n all os d a
def aS (p:R × AS) (ih:bL) (n:Nat) (all os:List Oper) (d:Option Tmp) (a:T Value):dV :=
 R.rec (motive:=fun _=>AS->qR) Ja Iv Iw GX p.1 p.2 ih n all os d a
def FT (r:Option (R × AS)) (ih:bL) (n:Nat) (all os:List Oper) (d:Option Tmp) (a:T Value):dV :=
 Option.rec (motive:=fun _=>qR) aN aS r ih n all os d a
def gN (C:Ctx) (ih:bL) (n:Nat) (all:List Oper) (o:Oper) (os:List Oper) (a:T Value) (s:AS):dV:=FT (Is o.op C a s) ih n all os o.dst a
def Iy (C:Ctx) (ih:bL) (n:Nat) (all:List Oper) (o:Oper) (os:List Oper) (a:T Value) (s:AS):dV :=
 Bool.rec (motive:=fun _=>dV) (wO o.dst undef a s ih n all os) (gN C ih n all o os a s) (aX all o a)
def gS (_:Nat × Bool) (C:Ctx) (ih:bL) (n:Nat) (all:List Oper) (o:Oper) (os:List Oper) (a:T Value) (s:AS):dV :=
 Bool.rec (motive:=fun _=>dV) none (Iy C ih n all o os a s) (em all o a)
def yL (C:Ctx) (ih:bL) (n:Nat) (all:List Oper) (o:Oper) (os:List Oper) (a:T Value) (s:AS):dV :=
 Option.rec (motive:=fun _=>Ctx->bL->Nat->List Oper->Oper->List Oper->T Value->AS->dV) gN gS o.guard C ih n all o os a s
theorem jy (d:Option Tmp) (v:Value) (a:T Value) (s:AS) (ih:bL) (n:Nat) (all os:List Oper):wO d v a s ih n all os=Ba ih n all os d v a s:=by
 cases d with
 | none=>rfl
 | some t =>
  show Bool.rec (motive:=fun _=>Tmp->Value->T Value->AS->bL->Nat->List Oper->List Oper->dV) Iu fS9 (Nat.blt t n) t v a s ih n all os=Option.rec (motive:=fun _=>dV) none (fun a'=>ih.o n all os a' s) (Bool.rec (motive:=fun _=>Option (T Value)) none (some (a.put t v)) (Nat.blt t n))
  cases Nat.blt t n <;> rfl
theorem D4 (r:Option (R × AS)) (ih:bL) (n:Nat) (all os:List Oper) (d:Option Tmp) (a:T Value):FT r ih n all os d a=xZ ih n all os d a (m5 ih r):=by
 cases r with
 | none=>rfl
 | some p =>
  obtain ⟨r,s⟩:=p
  cases r with
  | val v=>exact jy ..
  | skip=>exact jy ..
  | call g vs =>
   show Option.rec (motive:=fun _=>qR) aN cS (ih.f g vs s) ih n all os d a=xZ ih n all os d a (ih.f g vs s)
   cases ih.f g vs s with
   | none=>rfl
   | some p=>exact jy ..
  | round l vs =>
   show Option.rec (motive:=fun _=>qR) aN cS (p5 ih l vs s) ih n all os d a=xZ ih n all os d a (p5 ih l vs s)
   cases p5 ih l vs s with
   | none=>rfl
   | some p=>exact jy ..
theorem FU (C:Ctx) (ih:bL) (n:Nat) (all:List Oper) (o:Oper) (os:List Oper) (a:T Value) (s:AS):gN C ih n all o os a s=xZ ih n all os o.dst a (m5 ih (wT C o a s)):=by
 unfold gN;rw [D4,Fs];rfl
theorem BW (C:Ctx) (ih:bL) (n:Nat) (all:List Oper) (o:Oper) (os:List Oper) (a:T Value) (s:AS):yL C ih n all o os a s=vL C ih n all o os a s:=by
 unfold yL vL
 cases hg:o.guard with
 | none =>
  have h1:em all o a=true:=by unfold em;rw [hg]
  have h2:aX all o a=true:=by unfold aX;rw [hg]
  rw [h1,h2];exact FU ..
 | some g =>
  show gS g C ih n all o os a s=_;unfold gS Iy
  cases em all o a with
  | false=>rfl
  | true =>
   cases aX all o a with
   | false=>exact jy ..
   | true=>exact FU ..
def eN (_:Ctx) (_:bL) (_:Nat) (_:List Oper) (a:T Value) (s:AS):dV:=some (a,s)
def eC (o:Oper) (os:List Oper) (_:Ctx->bL->Nat->List Oper->T Value->AS->dV) (C:Ctx) (ih:bL) (n:Nat) (all:List Oper) (a:T Value) (s:AS):dV:=yL C ih n all o os a s
def GZ (C:Ctx) (ih:bL) (n:Nat) (all os:List Oper) (a:T Value) (s:AS):dV :=
 List.rec (motive:=fun _=>Ctx->bL->Nat->List Oper->T Value->AS->dV) eN eC os C ih n all a s
theorem Ft (C:Ctx) (ih:bL) (n:Nat) (all os:List Oper) (a:T Value) (s:AS):GZ C ih n all os a s=II C ih n all os a s:=by
 cases os with
 | nil=>rfl
 | cons o os=>exact BW ..
abbrev CK:=Ctx->bL->Bool->Nat->T Value->AS->eQ
def sN (_:Code) (_:bL) (_:Bool) (_:Nat):eQ:=none
def Fu (t:T Value × AS) (y:Code) (ih:bL) (q:Bool) (n:Nat):eQ:=ih.c q n y t.1 t.2
def Iz (id:Nat) (t:T Value × AS) (_:Code) (_:bL) (_:Bool) (_:Nat):eQ:=some (.exit id,t)
def Jb (t:T Value × AS) (_:Code) (_:bL) (_:Bool) (_:Nat):eQ:=some (.ret,t)
def sS (p:Xt × T Value × AS) (y:Code) (ih:bL) (q:Bool) (n:Nat):eQ :=
 Xt.rec (motive:=fun _=>T Value × AS->Code->bL->Bool->Nat->eQ) Fu Iz Jb p.1 p.2 y ih q n
def D5 (r:eQ) (y:Code) (ih:bL) (q:Bool) (n:Nat):eQ:=Option.rec (motive:=fun _=>Code->bL->Bool->Nat->eQ) sN sS r y ih q n
def IA (x y:Code) (_ _:CK) (_:Ctx) (ih:bL) (q:Bool) (n:Nat) (a:T Value) (s:AS):eQ:=D5 (ih.c q n x a s) y ih q n
def G0 (b:Code) (_:CK) (_:Ctx) (ih:bL) (q:Bool) (n:Nat) (a:T Value) (s:AS):eQ:=D5 (ih.c q n b a s) (.loop b) ih q n
def G2 (x:Operand) (t e:Code) (_ _:CK):CK:=zw x t e
def Fv (id:Nat) (b:Code) (_:CK):CK:=tO id b
def Fw (g:Operand) (ps:Array Tmp) (asg bd:Code) (_ _:CK):CK:=tP g ps asg bd
def D6 (_:Nat) (ops:Array Oper) (b:Bool):CK:=Bool.rec (motive:=fun _=>Array Oper->CK) oD tR b ops
def Fx (_:Code) (_:CK):CK:=zx
def Fy (_:Nat):CK:=zu
def G3 (_:Nat):CK:=zx
def D7 (_:String):CK:=zx
def G4 (c:Code):CK :=
 Code.rec (motive:=fun _=>CK) zu D6 IA G2 Fv G0 Fw FK Fx Fy G3 HO D7 c
theorem wP (r:eQ) (y:Code) (ih:bL) (q:Bool) (n:Nat):D5 r y ih q n=(match r with
 | some (.normal,a',s')=>ih.c q n y a' s'
 | r=>r):=by
 cases r with
 | none=>rfl
 | some p =>
  obtain ⟨x,a,s⟩:=p
  cases x <;> rfl
theorem Fz (c:Code) (C:Ctx) (ih:bL) (q:Bool) (n:Nat) (a:T Value) (s:AS):G4 c C ih q n a s=IX c C ih q n a s:=by
 cases c
 case region id ops b=>cases b <;> rfl
 case seq x y=>exact wP ..
 case loop b=>exact wP ..
 all_goals rfl
def evR (C:Ctx) (fuel:Nat):bL :=
 Nat.rec (motive:=fun _=>bL) ⟨fun _ _ _ _ _=>none,fun _ _ _ _ _=>none,fun _ _ _ _ _ _=>none,fun _ _ _=>none⟩ (fun _ ih=>⟨fun q n c a s=>G4 c C ih q n a s,GZ C ih,Hb C ih,Gw C ih⟩) fuel
theorem evR_eq (C:Ctx):∀ fuel,evR C fuel=ev C fuel
 | 0=>rfl
 | k+1=>by
  have ih:=evR_eq C k;show (⟨fun q n c a s=>G4 c C (evR C k) q n a s,GZ C (evR C k),Hb C (evR C k),Gw C (evR C k)⟩:bL)=⟨IH C (ev C k),II C (ev C k),Hb C (ev C k),Gw C (ev C k)⟩;rw [ih];congr 1
  ·funext q n c a s;exact Fz ..
  ·funext n all os a s;exact Ft ..
end
end Go.Proofs.YtgohffhoapkeaaaGreatDoor.Ev
namespace Go.Proofs.YtgohffhoapkeaaaGreatDoor.Ev
open Go.RowKit Go.Extern Go.Lib
variable {ω:Nat->Value}
def c4 (tb:Nat->Nat) (c:Nat):Nat:=Nat.xor (Nat.shiftRight c 4) (tb (Nat.land c 15))
def cb (tb:Nat->Nat) (c b:Nat):Nat:=c4 tb (c4 tb (Nat.xor c b))
def cl (tb:Nat->Nat) (c:Nat) (l:List Nat):Nat:=l.foldl (cb tb) c
theorem fh {x y:Nat} (hx:x<4294967296) (hy:y<4294967296):bits .xor .u32 (x:Int) (y:Int)=((Nat.xor x y:Nat):Int):=by
 rw [u32_xor _ _ (by omega) (by omega) (by omega) (by omega)];simp only [Int.toNat_natCast];rfl
theorem jD {x y:Nat} (hx:x<4294967296) (hy:y<4294967296):bits .and .u32 (x:Int) (y:Int)=((Nat.land x y:Nat):Int):=by
 rw [u32_and _ _ (by omega) (by omega) (by omega) (by omega)];simp only [Int.toNat_natCast];rfl
theorem gy {x y:Nat} (hx:x<4294967296) (hy:y<4294967296):Nat.xor x y<4294967296:=Nat.xor_lt_two_pow (n:=32) hx hy
theorem o0 {x:Nat}:Nat.land x 15<16:=Nat.lt_of_le_of_lt Nat.and_le_right (by decide)
theorem Cj (x:Nat):((Nat.shiftRight x 4:Nat):Int)=(x:Int) / 16:=by
 have:Nat.shiftRight x 4=x / 16:=Nat.shiftRight_eq_div_pow x 4;rw [this];simp
theorem ff {x:Nat} (hx:x<4294967296):Nat.shiftRight x 4<4294967296:=by
 have:Nat.shiftRight x 4=x / 16:=Nat.shiftRight_eq_div_pow x 4;omega
theorem uQ {tb:Nat->Nat} (htb:∀ i,tb i<4294967296) {x:Nat} (hx:x<4294967296):c4 tb x<4294967296:=gy (ff hx) (htb _)
theorem Ca {tb:Nat->Nat} (htb:∀ i,tb i<4294967296) {x y:Nat} (hx:x<4294967296) (hy:y<256):cb tb x y<4294967296:=uQ htb (uQ htb (gy hx (by omega)))
theorem kH (l:List Nat) (k:Nat) (h:k<l.length):l.take (k+1)=l.take k++[l[k]?.getD 0]:=by
 rw [List.take_succ_eq_append_getElem h];simp [h]
theorem sM (tb:Nat->Nat) (c:Nat) (l:List Nat) (k:Nat) (h:k<l.length):cl tb c (l.take (k+1))=cb tb (cl tb c (l.take k)) (l[k]?.getD 0):=by
 unfold cl;rw [kH l k h,List.foldl_append];rfl
theorem rF {tb:Nat->Nat} (htb:∀ i,tb i<4294967296):∀ (l:List Nat) (c:Nat),c<4294967296->(∀ x∈l,x<256)->cl tb c l<4294967296
 | [],_,hc,_=>hc
 | x::l,c,hc,h=>rF htb l (cb tb c x) (Ca htb hc (h x (by simp))) (fun y hy=>h y (by simp [hy]))
theorem kL (a:Addr) (n:Nat):(a.add n).block=a.block:=by unfold Addr.add;split <;> rfl
theorem o9 (tb:Nat->Nat) (htb:∀ i,tb i<4294967296) (cs:Array Value) (hcs:∀ i,i<16->cs[i]?=some (.int .u32 (tb i:Nat))) (c:Nat) (hc:c<4294967296) (A:Option Addr) (cp:Nat) (l:List Nat) (w:World) (hl:l.length<=1000000) (hb:∀ x∈l,x<256)
 (hr:0<l.length->∃ ad,A=some ad/\ad.block<w.heap.size/\∀ i,i<l.length->w.cell? (ad.add i)=some (.int .u8 (l[i]?.getD 0:Nat))) :
 Calls Tryz.prog 143 #[.agg cs,.int .u32 (c:Nat),.slice A l.length cp] w fun e w'=>e=.returned (.int .u32 (cl tb c l:Nat))/\Below w.heap.size w w':=by
 have HC:=lH hcs;have HTB:=lH htb;have HBY:=lH hb;clear hcs htb hb;go_enter Tryz.func143,Tryz.ntmps143;go_wp2
 go_loopw [1,11] (fun x i wr=>∃ k:Nat,k<=l.length/\i=.int .i64 k/\x=.int .u32 (cl tb c (l.take k):Nat)/\wr.heap[w.heap.size]?=some (.cells cs 249 (0,0))/\Below w.heap.size w wr)
  (fun _ i _=>l.length-(RowKit.intOf i).toNat)
 case atStart=>exact ⟨0,zL _,rfl,rfl,heap_alloc_new _ _,(bR _ _).alloc (nR _) _⟩
 case round =>
  obtain ⟨k,hk,rfl,rfl,hblk,hbel⟩:=hrel
  have HT:Hid (∀ i,i<16->wr.cell? ⟨w.heap.size,i,none⟩=some (.int .u32 (tb i:Nat))):=lH fun i hi=>by rw [cell_of_row _ _ _ _ _ _ hblk];exact HC.out i hi
  have HB:=lH hblk;clear hblk;by_cases hlt:k<l.length
  ·obtain ⟨ad,rfl,hB,hcl⟩:=hr (by omega);have hcell:=(hbel.cell (p:=ad.add k) (by rw [kL];exact hB)).trans (hcl k hlt);clear hcl;have hy:l[k]?.getD 0<256:=HBY.out _ (by simp [hlt]);have hx:cl tb c (l.take k)<4294967296:=rF HTB.out _ _ hc fun y hy=>HBY.out y (List.mem_of_mem_take hy);have HS:=lH (sM tb c l k hlt);clear hr;generalize cl tb c (l.take k)=x at hx HS;generalize l[k]?.getD 0=y at hcell hy HS
   obtain ⟨z1,H1⟩:∃ z,Hid (z=Nat.xor x y):=⟨_,lH rfl⟩
   have e1:bits .xor .u32 (x:Int) (y:Int)=(z1:Int):=by rw [H1.out];exact fh hx (by omega)
   have z1lt:z1<4294967296:=by rw [H1.out];exact gy hx (by omega)
   obtain ⟨i1,I1⟩:∃ z,Hid (z=Nat.land z1 15):=⟨_,lH rfl⟩
   have i1lt:i1<16:=by rw [I1.out];exact o0
   have e2:bits .and .u32 (z1:Int) 15=(i1:Int):=by rw [I1.out];exact jD (y:=15) z1lt (by omega)
   have c1:=HT.out i1 i1lt;have t1lt:=HTB.out i1
   obtain ⟨t1,T1⟩:∃ z,Hid (z=tb i1):=⟨_,lH rfl⟩
   rw [<-T1.out] at c1 t1lt
   obtain ⟨z2,H2⟩:∃ z,Hid (z=Nat.xor (Nat.shiftRight z1 4) t1):=⟨_,lH rfl⟩
   have e3:bits .xor .u32 ((z1:Int) / 16) (t1:Int)=(z2:Int):=by rw [H2.out,<-Cj];exact fh (ff z1lt) t1lt
   have z2lt:z2<4294967296:=by rw [H2.out];exact gy (ff z1lt) t1lt
   obtain ⟨i2,I2⟩:∃ z,Hid (z=Nat.land z2 15):=⟨_,lH rfl⟩
   have i2lt:i2<16:=by rw [I2.out];exact o0
   have e4:bits .and .u32 (z2:Int) 15=(i2:Int):=by rw [I2.out];exact jD (y:=15) z2lt (by omega)
   have c2:=HT.out i2 i2lt;have t2lt:=HTB.out i2
   obtain ⟨t2,T2⟩:∃ z,Hid (z=tb i2):=⟨_,lH rfl⟩
   rw [<-T2.out] at c2 t2lt
   obtain ⟨z3,H3⟩:∃ z,Hid (z=Nat.xor (Nat.shiftRight z2 4) t2):=⟨_,lH rfl⟩
   have e5:bits .xor .u32 ((z2:Int) / 16) (t2:Int)=(z3:Int):=by rw [H3.out,<-Cj];exact fh (ff z2lt) t2lt
   go_wp2
   go_roundw
   case rel =>
    refine ⟨k+1,by omega,by go_num,?_,HB.out,hbel⟩;rw [HS.out,H3.out,T2.out,I2.out,H2.out,T1.out,I1.out,H1.out];rfl
   case measure=>simp [RowKit.intOf];omega
  ·go_wp2;go_ret
   have hkl:k=l.length:=by omega
   exact ⟨by rw [hkl,List.take_length];rfl,hbel⟩
def qS:List Value->Option (List Nat)
 | []=>some []
 | .int .u8 (.ofNat n)::r=>match qS r with
  | some l=>cond (Nat.blt n 256) (some (n::l)) none
  | none=>none
 | _=>none
theorem qT:∀ {l:List Value} {ns:List Nat},qS l=some ns->l=ns.map (fun n=>Value.int .u8 (n:Nat))/\∀ x∈ns,x<256
 | [],ns,h=>by simp [qS] at h;subst h;exact ⟨rfl,by simp⟩
 | v::l,ns,h=>by
  unfold qS at h
  split at h
  ·rename_i e;cases e
  ·rename_i n r e
   cases e
   split at h
   ·rename_i l' hl';obtain ⟨e1,e2⟩:=qT hl'
    cases hb:Nat.blt n 256 with
    | false=>rw [hb] at h;cases h
    | true =>
     rw [hb] at h
     cases h
     rw [Nat.blt_eq] at hb;refine ⟨by rw [e1];rfl,fun x hx=>?_⟩
     rcases List.mem_cons.1 hx with rfl | hx
     ·exact hb
     ·exact e2 x hx
   ·cases h
  ·cases h
noncomputable def yM (s:AS) (v:Value):Option (List Nat):=match v with
 | .slice none 0 0=>some []
 | .slice (some p) n _=>match cq s p n with
  | some l=>qS l
  | none=>none
 | _=>none
section
variable {B:Nat} {X:cK} {m:M ω} {s s':AS} {w:World}
theorem LRel.nats {ns:List Nat} {l':List Value} (h:LRel m (ns.map fun n=>Value.int .u8 (n:Nat)) l'):l'=ns.map fun n=>Value.int .u8 (n:Nat):=by
 have e:(ns.map fun n=>Value.int .u8 (n:Nat))=(ns.map fun n:Nat=>(n:Int)).map (Value.int .u8):=by simp
 rw [e] at h ⊢;exact h.ints
theorem BX (hs:SR B X m s w) {v v':Value} {l:List Nat} (hv:VRel m v v') (h:yM s v=some l) :
 (∀ x∈l,x<256)/\∃ A cp,v'=.slice A l.length cp/\(0<l.length->∃ ad,A=some ad/\ad.block<w.heap.size/\∀ i,i<l.length->w.cell? (ad.add i)=some (.int .u8 (l[i]?.getD 0:Nat))):=by
 unfold yM at h
 split at h
 ·cases h
  obtain rfl:=bM hv;exact ⟨by simp,none,0,rfl,fun h=>absurd h (by simp)⟩
 ·rename_i p k c
  split at h
  ·rename_i l0 hl;obtain ⟨rfl,hby⟩:=qT h;obtain ⟨p',c',rfl,hor⟩:=aU hv;refine ⟨hby,some p',c',?_⟩
   rcases hor with ⟨hp,_,_⟩ | ⟨rfl,_,_⟩
   ·obtain ⟨l',g1,g2,g3⟩:=aL hs hl hp;obtain rfl:=g1.nats
    have hk:k=l.length:=by simpa using g2.symm
    subst hk;refine ⟨rfl,fun h0=>⟨p',rfl,?_,fun i hi=>g3 i _ (by simp [hi])⟩⟩;obtain ⟨_,i,hi,rfl⟩:=hp;exact hs.lt _ _ hi
   ·have hq:l=[]:=by simpa using ey hl
    subst hq;exact ⟨rfl,fun h0=>absurd h0 (by simp)⟩
  ·cases h
 ·cases h
theorem IB {x y z:Value} {args:Array Value} (hl:LRel m [x,y,z] args.toList):∃ x' y' z',args=#[x',y',z']/\VRel m x x'/\VRel m y y'/\VRel m z z':=by
 obtain ⟨a,b,c,e,h⟩:=l3 hl;refine ⟨a,b,c,?_,h⟩
 cases args with | mk l=>simp only at e;rw [e]
end
def Cb:Nat:=12749536319551302420830055290731983042906869231766370170184255228463894984119587222357463453493748006886229547019502462691509165827871124329361635492757504
def ke (i:Nat):Nat:=Nat.land (Nat.shiftRight Cb (Nat.mul 32 i)) 4294967295
theorem oz (i:Nat):ke i<4294967296:=Nat.lt_of_le_of_lt Nat.and_le_right (by decide)
def il:List Value:=[.int .u32 (.ofNat 0),.int .u32 (.ofNat 274646895),.int .u32 (.ofNat 549293790),.int .u32 (.ofNat 820201905),.int .u32 (.ofNat 1098587580),.int .u32 (.ofNat 1361435347),.int .u32 (.ofNat 1640403810),.int .u32 (.ofNat 1905808397),.int .u32 (.ofNat 2197175160),.int .u32 (.ofNat 2460548119),.int .u32 (.ofNat 2722870694),.int .u32 (.ofNat 2987750089),.int .u32 (.ofNat 3280807620),.int .u32 (.ofNat 3553878443),.int .u32 (.ofNat 3811616794),.int .u32 (.ofNat 4084100981)]
theorem oA:∀ i,i<16->il.toArray[i]?=some (.int .u32 (ke i:Nat)):=by
 intro i hi
 match i,hi with
 | 0,_=>rfl
 | 1,_=>rfl
 | 2,_=>rfl
 | 3,_=>rfl
 | 4,_=>rfl
 | 5,_=>rfl
 | 6,_=>rfl
 | 7,_=>rfl
 | 8,_=>rfl
 | 9,_=>rfl
 | 10,_=>rfl
 | 11,_=>rfl
 | 12,_=>rfl
 | 13,_=>rfl
 | 14,_=>rfl
 | 15,_=>rfl
 | k+16,h=>exact absurd h (by omega)
noncomputable def yN:mC
 | [.agg cs,.int .u32 (.ofNat c),v],s=>cond (EO (A0 2) cs.toList il && Nat.blt c 4294967296) (match yM s v with
  | some l=>cond (Nat.ble l.length 1000000) (some (.int .u32 (.ofNat (cl ke c l)),s)) none
  | none=>none) none
 | _,_=>none
theorem sK:bi (.agg il.toArray)=true:=by decide
theorem BZ (hh:Hands ω) (C:Ctx) (hP:C.P=Tryz.prog):gj ω C 143 yN:=by
 intro vs s v s' hv B X m w args hs hr hB;have hC:uJ ω (CE [] [] noCnv noRd):=GC hh (fun f hf=>by cases hf) (fun f hf=>by cases hf) mn noRd;unfold yN at hv
 split at hv
 ·rename_i cs c u
  cases hb:(EO (A0 2) cs.toList il && Nat.blt c 4294967296) with
  | false=>rw [hb] at hv;cases hv
  | true =>
   rw [hb] at hv;simp only [cond_true] at hv;rw [Bool.and_eq_true,Nat.blt_eq] at hb
   have ecs:cs=il.toArray:=by
    have e:=fF (fG 2) hb.1
    cases cs;simp only at e;rw [e]
   split at hv
   ·rename_i l hl
    cases hlen:Nat.ble l.length 1000000 with
    | false=>rw [hlen] at hv;cases hv
    | true =>
     rw [hlen] at hv
     cases hv
     obtain ⟨x',y',z',rfl,g1,g2,g3⟩:=IB hr;subst ecs;obtain rfl:=iD g1 sK;obtain rfl:=bg g2;obtain ⟨hby,A,cp,rfl,hrd⟩:=BX hs g3 hl;refine jq (by rw [hP];exact hC.ok.call 143 _ rfl rfl _ w) fun n=>?_;rw [hP];refine callsIn_wide.2 ((o9 ke oz il.toArray oA c hb.2 A cp l w (Nat.le_of_ble_eq_true hlen) hby hrd).mono ?_);rintro e w' ⟨rfl,hb'⟩;exact ⟨_,rfl,m,Le.refl _,hs.below hb',.plain _ rfl,hb'.mono hB.le⟩
   ·cases hv
 ·cases hv
def isV (v:Value) (r:Option (Value × AS)):Bool:=match r with
 | some (u,_)=>A0 10 u v
 | none=>false
theorem wQ {v:Value} {r:Option (Value × AS)} (h:isV v r=true):∃ s,r=some (v,s):=by
 unfold isV at h
 split at h
 ·rename_i u s;exact ⟨s,by rw [fG _ _ _ h]⟩
 ·cases h
theorem ry (hh:Hands ω) {fuel:Nat} {g:FuncId} {v0:Value} (hcl:bi v0=true) (hsp:I0 g=none) (hr:isV v0 ((ev (CE [] [] noCnv noRd) fuel).f g [] ⟨0,.leaf⟩)=true) :
 ∀ C:Ctx,C.P=Tryz.prog->lp C->gj ω C g (uE v0):=by
 intro C hP hG vs s v s' hv B X m w args hs hl hB;unfold uE at hv
 split at hv
 ·cases hv
  have ha:args=#[]:=by
   have:=hl.1
   cases args with | mk l=>cases l with | nil=>rfl | cons _ _=>simp at this
  subst ha;obtain ⟨s1,h1⟩:=wQ hr
  have hgl:∀ g v,globT g=some v->g<w.heap.size/\∃ v',w.cell? ⟨g,0,none⟩=some v'/\∀ m:M ω,VRel m v v':=fun g v h=>by
   have:=hB.gl g v (by rw [hG.1];exact h);exact ⟨lT this.1 hB.le,this.2⟩
  have hC:uJ ω (CE [] [] noCnv noRd):=GC hh (fun f hf=>by cases hf) (fun f hf=>by cases hf) mn noRd
  have key:=((sound hC fuel).2.2.2.1 g [] _ v0 s1 h1 w.heap.size _ _ w #[] (DU w) (LRel.nil _) ⟨nR _,hgl,fun k h=>(by cases h),fun g cs h=>by
   have:=hB.iv g cs (hG.2 g cs h)
   exact ⟨lT this.1 hB.le,this.2⟩⟩).2 hsp
  refine jq (by rw [hP];exact key.1 _ _) fun n=>?_;rw [hP];refine (key.2 n).mono ?_;rintro e w' ⟨v',rfl,m',_,_,hr',hb'⟩;obtain rfl:=iD hr' hcl;exact ⟨_,rfl,m,Le.refl _,hs.below hb',gu hcl,hb'.mono hB.le⟩
 ·cases hv
theorem B3:isV (.agg il.toArray) ((ev (CE [] [] noCnv noRd) 1000).f 142 [] ⟨0,.leaf⟩)=true:=by kernel_rfl
noncomputable def G5:List (FuncId × mC):=[(143,yN),(142,uE (.agg il.toArray))]
theorem FA (hh:Hands ω):∀ p∈G5,∀ C:Ctx,C.P=Tryz.prog->lp C->gj ω C p.1 p.2:=by
 intro p hp C hP hG;simp only [G5,List.mem_cons,List.not_mem_nil,or_false] at hp
 rcases hp with rfl | rfl
 ·exact BZ hh C hP
 ·exact ry hh sK rfl B3 C hP hG
end Go.Proofs.YtgohffhoapkeaaaGreatDoor.Ev
namespace Go.Proofs.YtgohffhoapkeaaaGreatDoor
open Go.RowKit
open Ev (ev evR evR_eq AS st1 noCnv noRd VRel LRel Hands hBase cxOK globT isV)
def Jc (k:Nat):Value:=.pointer (some ⟨5,k-hBase,none⟩)
theorem yO:Hands Jc:=fun t=>by
 show Value.pointer (some ⟨5,hBase+t-hBase,none⟩)=_;rw [show hBase+t-hBase=t by omega]
theorem B4 {w:World} (ht:aH w):∀ g cs,Ev.FO g=some cs->g<w.heap.size/\∃ t fz,w.heap[g]?=some (.cells cs t fz):=by
 intro g cs h';have h1:2<w.heap.size:=dQ ht;unfold Ev.FO at h'
 cases hb:Nat.beq g 2 with
 | false=>rw [hb] at h';cases h'
 | true =>
  have:=bE hb;subst this;rw [hb] at h';refine ⟨by omega,?_⟩;unfold aH at ht
  split at ht
  ·rename_i cs' t fz he
   cases ht
   cases h'
   exact ⟨t,fz,he⟩
  ·cases ht
theorem FB {w:World} (hg:ay w):∀ g v,globT g=some v->g<w.heap.size/\∃ v',w.cell? ⟨g,0,none⟩=some v'/\∀ m:Ev.M Jc,VRel m v v':=by
 intro g v h;have h2:=zS yO hg g v h;refine ⟨?_,h2.2⟩;have h':globT g=some v:=h;unfold globT at h'
 cases hb:Nat.beq g 0 with
 | false=>rw [hb] at h';cases h'
 | true =>
  have:=bE hb;have h0:=World.block_lt_of_cell? w _ hg;subst this;exact h0
end Go.Proofs.YtgohffhoapkeaaaGreatDoor
set_option linter.unusedSimpArgs false
namespace Go.Proofs.YtgohffhoapkeaaaGreatDoor.Ev
open Go.RowKit Go.Extern Go.Lib
variable {ω:Nat->Value}
theorem j8 {P:Program} (w:World) (dT sT ty elem:TypeId) (b o dLen dCap:Nat) (a:Addr) (sLen sCap:Nat) (cs:List Value)
 (hu:P.underlying dT=some (.slice elem)) (hs:(P.info? elem).map (·.size)=some 5) (hn:cs.length=Nat.min sLen dLen*5)
 (hsrc:∀ j v,cs[j]?=some v->w.cell? (a.add j)=some v) (hc:∀ j,j<cs.length->(w.cell? ⟨b,o+j,none⟩).isSome=true) (hf:∀ j,j<cs.length->w.frozen? ⟨b,o+j,none⟩=false) (h1:∀ v∈cs,v.oneCell'=true) :
 (Builtin.copy_ #[dT,sT] ty #[.slice (some ⟨b,o,none⟩) dLen dCap,.slice (some a) sLen sCap]).run P w=.ok (goInt (Nat.min sLen dLen)) (w.setCells b o cs):=by
 have hst:=run_storeCells_cells (P:=P) b o cs 0 w (by simpa using hc) (by simpa using hf) h1;have hfc:=run_firstCells_some (P:=P) w 5 (Nat.min sLen dLen) a sLen sCap cs hn hsrc
 cases hq:P.info? elem with
 | none=>rw [hq] at hs;cases hs
 | some i =>
  rw [hq] at hs
  have h5:i.size=5:=by simpa using hs
  have hst':(storeCells ⟨b,o,none⟩ cs).run P w=.ok () (w.setCells b o cs):=by simpa using hst
  simp [Builtin.copy_,run_underlying hu,Builtin.lenOf,sizeOf,typeInfo,hq,h5,hfc,hst']
theorem Ac:(Tryz.prog.info? 117).map (·.size)=some 5:=by kernel_rfl
theorem td:∀ w,(Go.sizeOf 117).run Tryz.prog w=.ok 5 w:=fun w=>by kernel_rfl
theorem uF (b off c vb voff vc:Nat) (cs vs:List Value) (w:World) (hroom:2<=c) (hvb:vb≠b)
 (hcl:cs.length=5) (hvl:vs.length=5)
 (hcs:∀ j v,cs[j]?=some v->w.cell? ⟨b,off+j,none⟩=some v) (hsp:∀ j,j<10->(w.cell? ⟨b,off+j,none⟩).isSome=true) (hfz:∀ j,j<10->w.frozen? ⟨b,off+j,none⟩=false)
 (hvs:∀ j v,vs[j]?=some v->w.cell? ⟨vb,voff+j,none⟩=some v) (h1c:∀ v∈cs,v.oneCell'=true) (h1v:∀ v∈vs,v.oneCell'=true)
 (tA tB:TypeId) (kA kB:Nat) (hsa:w.shape? vb=some (tA,kA)) (hsb:w.shape? b=some (tB,kB)) (hkB:kB≠0) (hfa:w.frozen? ⟨vb,voff,none⟩=false) (hfe:w.frozen? ⟨vb,kA,none⟩=false) :
 Calls Tryz.prog 66 #[.slice (some ⟨b,off,none⟩) 1 c,.int .i64 0,.slice (some ⟨vb,voff,none⟩) 1 vc] w fun e w' =>
  e=.returned (.slice (some ⟨b,off,none⟩) 2 c)/\w'=(w.drew.setCells b (off+5) cs).setCells b off vs:=by
 have hov:∀ lb cb,(callFunc 98 #[.slice (some ⟨vb,voff,none⟩) 1 vc,.slice (some ⟨b,off+5,none⟩) lb cb]).run Tryz.prog w=.ok (.value (.bool false)) w:=fun lb cb=>by
  rw [run_callFunc_extern Tryz.func98 (by kernel_rfl) (by kernel_rfl) (by kernel_rfl) (e:=Extern.SlicesOverlaps.overlaps #[93,93] #[4]) (by kernel_rfl),
   Lib.run_overlaps_apart w 93 4 117 Tryz.underlying93 5 td ⟨vb,voff,none⟩ ⟨b,off+5,none⟩ 1 vc lb cb hvb tA tB kA kB hsa hsb hkB hfa hfe]
  rfl
 have mixed:=mixed
 have hcp1:∀ ty dc sc,(Builtin.copy_ #[93,93] ty #[.slice (some ⟨b,off+5,none⟩) 1 dc,.slice (some ⟨b,off,none⟩) 2 sc]).run Tryz.prog w.drew=.ok (goInt 1) (w.drew.setCells b (off+5) cs):=fun ty dc sc =>
  j8 w.drew _ _ ty 117 b (off+5) 1 dc ⟨b,off,none⟩ 2 sc cs Tryz.underlying93 Ac (by rw [hcl];rfl)
   (fun j v hj=>by rw [Addr.add_lit];exact hcs j v hj)
   (fun j hj=>by rw [Nat.add_assoc];exact hsp _ (by omega)) (fun j hj=>by rw [Nat.add_assoc];exact hfz _ (by omega)) h1c
 obtain ⟨W1,hW1⟩:∃ W1,W1=w.drew.setCells b (off+5) cs:=⟨_,rfl⟩
 have hsp1:∀ k,k<10->(W1.cell? ⟨b,off+k,none⟩).isSome=true:=fun k hk=>by
  rw [hW1];exact isSome_setCells b _ _ _ (fun j hj=>by rw [Nat.add_assoc];exact hsp _ (by omega)) _ (hsp k hk)
 have hcp2:∀ (W:World),(∀ x,W.cell? x=W1.cell? x)->(∀ x,W.frozen? x=W1.frozen? x)->∀ ty dc,(Builtin.copy_ #[93,93] ty #[.slice (some ⟨b,off,none⟩) 2 dc,.slice (some ⟨vb,voff,none⟩) 1 vc]).run Tryz.prog W=.ok (goInt 1) (W.setCells b off vs):=fun W hWc hWf ty dc =>
  j8 W _ _ ty 117 b off 2 dc ⟨vb,voff,none⟩ 1 vc vs Tryz.underlying93 Ac (by rw [hvl];rfl)
   (fun j v hj=>by
    rw [Addr.add_lit,hWc,hW1,World.cell?_setCells_out b _ _ _ _ (fun h _=>absurd h hvb)]
    exact hvs j v hj)
   (fun j hj=>by rw [hWc];exact hsp1 _ (by omega)) (fun j hj=>by rw [hWf,hW1,World.frozen?_setCells];exact hfz _ (by omega)) h1v
 rw [<-hW1] at hcp1
 have hw1:IntKind.i64.wrap 1=1:=by decide
 have hb2:¬ (c=1):=by omega
 have hb4:¬ (c=0):=by omega
 have hb5:¬ ((c:Int)<2):=by omega
 go_enter Tryz.func66,Tryz.ntmps66
 go_wp2_with (simp only [hov])
 go_region_law_o (refine step_copy_runI rfl _ _ 93 93 rfl _ _ (by simp [Act.eval,Act.put]) (by simp [Act.eval,Act.put]) (hcp1 _ _ _) ?_)
 go_wp2_with (at_builtin;refine wpList_copy_runI _ rfl _ _ 93 93 rfl _ _ rfl rfl (hcp2 _ (fun _=>rfl) (fun _=>rfl) _ _) ?_)
 go_ret
 first | exact ⟨rfl,rfl⟩ | exact ⟨rfl,by rw [hW1]⟩
theorem D8:∃ (i0:TypeInfo) (z:Value),Tryz.prog.info? 117=some i0/\i0.zero=some z/\i0.size=5/\z.cells.size=5/\i0.bytes<=1000:=by
 have h1:(Tryz.prog.info? 117).map (fun i=>(i.size,Nat.ble i.bytes 1000,i.zero.map (fun z=>z.cells.size)))=some (5,true,some 5):=by kernel_rfl
 cases hi:Tryz.prog.info? 117 with
 | none=>rw [hi] at h1;cases h1
 | some i0 =>
  rw [hi] at h1;simp only [Option.map_some,Option.some.injEq,Prod.mk.injEq] at h1
  cases hz:i0.zero with
  | none=>rw [hz] at h1;cases h1.2.2
  | some z =>
   rw [hz] at h1;exact ⟨i0,z,rfl,hz,h1.1,Option.some.inj h1.2.2,Nat.le_of_ble_eq_true h1.2.1⟩
theorem wR (b off vb voff vc:Nat) (cs vs:List Value) (w:World)
 (hcl:cs.length=5) (hvl:vs.length=5)
 (hcs:∀ j v,cs[j]?=some v->w.cell? ⟨b,off+j,none⟩=some v)
 (hvs:∀ j v,vs[j]?=some v->w.cell? ⟨vb,voff+j,none⟩=some v) (h1c:∀ v∈cs,v.oneCell'=true) (h1v:∀ v∈vs,v.oneCell'=true) :
 ∃ (G:Nat) (ROW:Array Value),2<=G/\ROW.size=G*5/\Calls Tryz.prog 66 #[.slice (some ⟨b,off,none⟩) 1 1,.int .i64 0,.slice (some ⟨vb,voff,none⟩) 1 vc] w fun e w' =>
  e=.returned (.slice (some ⟨w.heap.size,0,none⟩) 2 G)/\w'=(((w.alloc (.cells ROW 117)).drew.setCells w.heap.size 0 vs).drew).setCells w.heap.size 5 cs:=by
 have mixed:=mixed;obtain ⟨i0,z,hi0,hz0,hzs,hzc,hzb⟩:=D8;have hbw:b<w.heap.size:=block_lt_of_cell (hcs 0 _ (gE (by omega)));have hvw:vb<w.heap.size:=block_lt_of_cell (hvs 0 _ (gE (by omega)))
 have hold:(Builtin.firstCells i0.size 0 (.slice (some ⟨b,off,none⟩) 0 1)).run Tryz.prog w.drew=.ok ([]:List Value).toArray w.drew :=
  run_firstCells_some w.drew i0.size 0 ⟨b,off,none⟩ 0 1 [] (by simp) (fun j v hj=>by simp at hj)
 have hrz:∀ ty,(Builtin.append_ #[93,3] ty #[.slice (some ⟨b,off,none⟩) 0 1,.int .i64 2]).run Tryz.prog w =
  .ok (.slice (some ⟨w.heap.size,0,none⟩) 2 (grownCap w 2 1 117)) (w.drew.alloc (.cells (([]:List Value).toArray++Builtin.zeroCells z.cells 2++Builtin.zeroCells z.cells (grownCap w 2 1 117-2)) 117)):=fun ty=>by
  have h:=Lib.run_append_grow_zeros w 93 3 ty 117 i0 _ .i64 .i64 Tryz.underlying93 Tryz.underlying3 hi0 hz0 (some ⟨b,off,none⟩) 0 1 [] hold 2 (by omega) (by omega) (by omega) (by omega) (by omega) (growslice_fits (by omega) (by omega))
  simpa using h
 have hGn:2<=grownCap w 2 1 117:=grownCap_ge w _ _ _
 have hG63:grownCap w 2 1 117<=9223372036854775807:=by
  have:=grownCap_le_maxLen w 2 1 117 (by unfold maxLen;omega);unfold maxLen at this;omega
 generalize grownCap w 2 1 117=G at hrz hGn hG63
 obtain ⟨ROW,hROW⟩:∃ ROW:Array Value,ROW=([]:List Value).toArray++Builtin.zeroCells z.cells 2++Builtin.zeroCells z.cells (G-2):=⟨_,rfl⟩
 rw [<-hROW] at hrz
 have hRl:ROW.size=G*5:=by
  rw [hROW];simp [Builtin.zeroCells,hzc];omega
 refine ⟨G,ROW,hGn,hRl,?_⟩
 obtain ⟨W1,hW1⟩:∃ W1,W1=w.drew.alloc (.cells ROW 117):=⟨_,rfl⟩
 rw [<-hW1] at hrz
 have hN:∀ j,j<10->(W1.cell? ⟨w.heap.size,j,none⟩).isSome=true:=fun j hj=>by
  rw [hW1,World.cell?_alloc_at (w:=w.drew) ROW _ w.heap.size j rfl,Array.getElem?_eq_getElem (by omega)];rfl
 have hNf:∀ j,W1.frozen? ⟨w.heap.size,j,none⟩=false:=fun j=>by rw [hW1];exact World.frozen?_alloc_at (w:=w.drew) ROW _ w.heap.size j rfl
 have hOb:∀ j v,w.cell? ⟨b,j,none⟩=some v->W1.cell? ⟨b,j,none⟩=some v:=fun j v h=>by rw [hW1,World.cell?_alloc_past (w:=w.drew) _ b j hbw];exact h
 have hOv:∀ j v,w.cell? ⟨vb,j,none⟩=some v->W1.cell? ⟨vb,j,none⟩=some v:=fun j v h=>by rw [hW1,World.cell?_alloc_past (w:=w.drew) _ vb j hvw];exact h
 have hcpA:∀ (W:World),(∀ x,W.cell? x=W1.cell? x)->(∀ x,W.frozen? x=W1.frozen? x)->∀ ty dc,(Builtin.copy_ #[93,93] ty #[.slice (some ⟨w.heap.size,0,none⟩) 2 dc,.slice (some ⟨vb,voff,none⟩) 1 vc]).run Tryz.prog W=.ok (goInt 1) (W.setCells w.heap.size 0 vs):=fun W hWc hWf ty dc =>
  j8 W _ _ ty 117 w.heap.size 0 2 dc ⟨vb,voff,none⟩ 1 vc vs Tryz.underlying93 Ac (by rw [hvl];rfl)
   (fun j v hj=>by rw [Addr.add_lit,hWc];exact hOv _ v (hvs j v hj))
   (fun j hj=>by rw [hWc];exact hN _ (by omega)) (fun j hj=>by rw [hWf];exact hNf _) h1v
 have hbN:b≠w.heap.size:=by omega
 have hcpB:∀ (W:World),(∀ x,W.cell? x=(W1.setCells w.heap.size 0 vs).cell? x)->(∀ x,W.frozen? x=(W1.setCells w.heap.size 0 vs).frozen? x)->∀ ty dc sc,(Builtin.copy_ #[93,93] ty #[.slice (some ⟨w.heap.size,5,none⟩) 1 dc,.slice (some ⟨b,off,none⟩) 1 sc]).run Tryz.prog W=.ok (goInt 1) (W.setCells w.heap.size 5 cs):=fun W hWc hWf ty dc sc =>
  j8 W _ _ ty 117 w.heap.size 5 1 dc ⟨b,off,none⟩ 1 sc cs Tryz.underlying93 Ac (by rw [hcl];rfl)
   (fun j v hj=>by
    rw [Addr.add_lit,hWc,World.cell?_setCells_out _ _ _ _ _ (fun h _=>absurd h hbN)]
    exact hOb _ v (hcs j v hj))
   (fun j hj=>by rw [hWc];exact isSome_setCells _ _ _ _ (fun t ht=>hN _ (by omega)) _ (hN _ (by omega)))
   (fun j hj=>by rw [hWf,World.frozen?_setCells];exact hNf _) h1c
 subst hW1;have hE1:∀ x,((w.alloc (.cells ROW 117)).drew).cell? x=(w.drew.alloc (.cells ROW 117)).cell? x:=fun x=>rfl;have hE2:∀ x,((w.alloc (.cells ROW 117)).drew).frozen? x=(w.drew.alloc (.cells ROW 117)).frozen? x:=fun x=>rfl;have hF1:∀ x,(((w.alloc (.cells ROW 117)).drew.setCells w.heap.size 0 vs).drew).cell? x=((w.drew.alloc (.cells ROW 117)).setCells w.heap.size 0 vs).cell? x:=fun x=>rfl;have hF2:∀ x,(((w.alloc (.cells ROW 117)).drew.setCells w.heap.size 0 vs).drew).frozen? x=((w.drew.alloc (.cells ROW 117)).setCells w.heap.size 0 vs).frozen? x:=fun x=>rfl
 have hw1:IntKind.i64.wrap 1=1:=by decide
 have hw2:IntKind.i64.wrap 2=2:=by decide
 have hGi:¬ (G=0):=by omega
 have hGim:¬ (G=1):=by omega
 clear hold hROW hRl;go_enter Tryz.func66,Tryz.ntmps66
 go_wp2_with (first
  | (at_builtin;refine Lib.wpList_append_run _ rfl _ _ _ _ rfl _ _ rfl rfl _ _ (hrz _) ?_)
  | (at_builtin;refine wpList_copy_runI _ rfl _ _ 93 93 rfl _ _ rfl rfl (hcpA _ hE1 hE2 _ _) ?_)
  | (at_builtin;refine wpList_copy_runI _ rfl _ _ 93 93 rfl _ _ rfl rfl (hcpB _ (fun _=>rfl) (fun _=>rfl) _ _ _) ?_))
 go_region_law_o (refine step_copy_runI rfl _ _ 93 93 rfl (.slice (some ⟨w.heap.size,5,none⟩) 1 (G-1)) (.slice (some ⟨b,off,none⟩) 1 1) (by simp [Act.eval,Act.put]) (by simp [Act.eval,Act.put]) (hcpB _ hF1 hF2 3 (G-1) 1) ?_)
 go_wp2;go_ret;exact ⟨rfl,rfl⟩
noncomputable def D9:mC
 | [.slice (some a) 1 1,.int .i64 (.ofNat 0),.slice (some v) 1 _],s=>match fQ s a.block,cq s a 5,fQ s v.block,cq s v 5 with
  | some k,some l,some kv,some x=>cond (k.opn && (Nat.beq k.esz 5 && (Nat.beq (a.off+5) k.len && (Nat.beq k.elem 117 && (Nat.beq kv.elem 117 && (!Nat.beq a.block v.block && (x.all de && l.all de)))))))
   (some (.slice (some ⟨s.n,0,none⟩) 2 2,(pJ ⟨s.n,s.h.put a.block .dead⟩ (x++l) (x++l).length 117 5 true false).2)) none
  | _,_,_,_=>none
 | _,_=>none
theorem Ea {e:TypeId} (h:Nat.beq e 117=true) {fz:Nat × Nat} {t:Nat} (hf:fz=(0,0)\/(fz=(t,t+1)/\Nat.beq e noMark=false)):fz=(0,0):=by
 rcases hf with h1 | ⟨_,h2⟩
 ·exact h1
 ·obtain rfl:=bE h;exact absurd h2 (by decide)
section
variable {B:Nat} {X:cK} {m:M ω} {s s':AS} {w:World}
theorem G6 (hB:B<=w.heap.size) {vs:List Value} {v:Value} {args:Array Value} (hs:SR B X m s w) (hl:LRel m vs args.toList) (h:D9 vs s=some (v,s')) :
 Calls Tryz.prog 66 args w fun e w'=>∃ v',e=.returned v'/\cU B X m s' w v v' w':=by
 unfold D9 at h
 split at h
 ·rename_i a va vcc
  split at h
  ·rename_i k l kv x hkb hrl hkv hrx
   cases hc:(k.opn && (Nat.beq k.esz 5 && (Nat.beq (a.off+5) k.len && (Nat.beq k.elem 117 && (Nat.beq kv.elem 117 && (!Nat.beq a.block va.block && (x.all de && l.all de))))))) with
   | false=>rw [hc] at h;cases h
   | true =>
    rw [hc] at h;simp only [cond_true,Option.some.injEq,Prod.mk.injEq] at h;obtain ⟨rfl,rfl⟩:=h;simp only [Bool.and_eq_true] at hc;obtain ⟨ho,hez,hend,hel,helv,hnb,hx1,hl1⟩:=hc;have hez':=bE hez;have hend':=bE hend;have hel':=bE hel
    have hnb':a.block≠va.block:=fun e=>by rw [e] at hnb;simp at hnb
    obtain ⟨y1,y2,y3,hyl,r1,r2,r3⟩:=l3 hl
    have ha:args=#[y1,y2,y3]:=by cases args with | mk q=>exact congrArg Array.mk hyl
    subst ha;obtain ⟨p',c',rfl,hor⟩:=aU r1;obtain rfl:=bg r2;obtain ⟨q',vc',rfl,hor2⟩:=aU r3
    rcases hor with ⟨hp,hcr,_⟩ | ⟨h0,_,_⟩
    ·rcases hor2 with ⟨hq,_,_⟩ | ⟨h0,_,_⟩
     ·obtain ⟨cs,o1,o2,o3⟩:=aL hs hrl hp;obtain ⟨us,u1,u2,u3⟩:=aL hs hrx hq;obtain ⟨_,i,i1,rfl⟩:=hp;obtain ⟨_,j,j1,rfl⟩:=hq;obtain ⟨i2,⟨a1,a2,a3,a4,cw,fz,hw,hsz,hcell,hfz⟩,i4,i5⟩:=gG hs hkb i1;obtain ⟨j2,⟨b1,b2,b3,b4,dw,gz,hw2,hsz2,hcell2,hfz2⟩,j4,j5⟩:=gG hs hkv j1;have e1:=Ea hel hfz;have e2:=Ea helv hfz2;subst e1;subst e2;have hne:j.r≠i.r:=fun e=>hs.inj _ _ _ _ _ _ i2 j2 rfl rfl hnb' i1 j1 e.symm
      have o3':∀ t u,cs[t]?=some u->w.cell? ⟨i.r,i.d+a.off+t,none⟩=some u:=fun t u ht=>by rw [<-add_lit];exact o3 t u ht
      have u3':∀ t u,us[t]?=some u->w.cell? ⟨j.r,j.d+va.off+t,none⟩=some u:=fun t u ht=>by rw [<-add_lit];exact u3 t u ht
      have hlx:LRel m (x++l) (us++cs):=u1.append o1
      have hlen:(x++l).length=10:=by rw [hlx.1,lQ,u2,o2]
      have c1:=oI o1 hl1;have v1:=oI u1 hx1;by_cases hroom:2<=c'
      ·have hfit:i.d+a.off+c'*5<=i.tot:=by
        rcases hcr with rfl | ⟨_,i',k1,k2,k3,k4⟩
        ·omega
        ·rw [i1] at k1;cases k1;rw [a3,hez'] at k4;exact k4
       refine (uF i.r (i.d+a.off) c' j.r (j.d+va.off) vc' cs us w hroom hne o2 u2 o3' (fun t ht=>?_) (fun t ht=>?_) u3' c1 v1 kv.elem k.elem dw.size cw.size ?_ ?_ ?_ ?_ ?_).mono ?_
       ·rw [cell_of_row w i.r _ cw k.elem _ hw]
        have:i.d+a.off+t<cw.size:=by omega
        simp [this]
       ·simp [World.frozen?,hw]
       ·simp [World.shape?,hw2]
       ·simp [World.shape?,hw]
       ·omega
       ·simp [World.frozen?,hw2]
       ·simp [World.frozen?,hw2]
       ·rintro e w' ⟨rfl,rfl⟩;obtain ⟨c2,g1,g2,g3⟩:=bI cs (i.d+a.off+5) w.drew cw hw;obtain ⟨c3,f1,f2,f3⟩:=bI us (i.d+a.off) _ c2 g1;have hle:Le m (ext m s.n ⟨i.r,i.d+a.off,(x++l).length,5,true,i.tot⟩):=tT (hs.freshM s.n (nR _))
        have hsr:=nG (i':=⟨i.r,i.d+a.off,(x++l).length,5,true,i.tot⟩) (o':=.cells ⟨T.bH (x++l) 0 .leaf,(x++l).length,117,5,true,false⟩)
         (w1:=(w.drew.setCells i.r (i.d+a.off+5) cs).setCells i.r (i.d+a.off) us) hs i2 rfl i1 rfl (by rw [size_setCells,size_setCells];rfl) (fun q hq=>by rw [heap_setCells_other _ _ _ _ hq,heap_setCells_other _ _ _ _ hq];rfl) ?_
        ·refine ⟨_,rfl,_,hle,hsr,.slice _ _ _ _ _ ⟨rfl,_,ba _ _ _,rfl⟩ (.inr ⟨hroom,_,ba _ _ _,rfl,?_,?_⟩) (nR _),(((bR B w).drew).trans (below_setCells i4 _ _ _)).trans (below_setCells i4 _ _ _)⟩
         ·simp only [Nat.zero_add];exact hlen.symm
         ·simpa using hfit
        ·refine ⟨rfl,rfl,rfl,by show i.d+a.off+(x++l).length<=i.tot;omega,c3,(0,0),by rw [<-hel'];exact f1,by rw [f2,g2];exact hsz,fun t ht=>?_,.inl rfl⟩;have ht':t<(x++l).length:=ht;have hll:(x++l).length=(us++cs).length:=hlx.1;refine ⟨(x++l)[t],(us++cs)[t]'(by omega),by rw [T.br,if_pos (by omega)];simp,?_,(hlx.2 t _ _ (gE ht') (gE (by omega))).mono hle⟩;show c3[i.d+a.off+t]?=_;rw [f3,u2];by_cases htu:t<5
         ·rw [if_pos (by omega),List.getElem_append_left (by omega),<-gE];congr 1;omega
         ·rw [if_neg (by omega),g3,o2,if_pos (by omega),List.getElem_append_right (by omega),<-gE];congr 1;omega
      ·have hc1:c'=1:=by
        rcases hcr with h | ⟨h,_⟩ <;> omega
       subst hc1;obtain ⟨G,ROW,hG,hR,hcall⟩:=wR i.r (i.d+a.off) j.r (j.d+va.off) vc' cs us w o2 u2 o3' u3' c1 v1;refine hcall.mono ?_;rintro e w' ⟨rfl,rfl⟩;obtain ⟨c2,g1,g2,g3⟩:=bI us 0 (w.alloc (.cells ROW 117)).drew ROW (heap_alloc_new w _);obtain ⟨c3,f1,f2,f3⟩:=bI cs 5 ((w.alloc (.cells ROW 117)).drew.setCells w.heap.size 0 us).drew c2 g1;have hkill:=qe hs a.block (by rw [i2];rfl) i1
       have hc3:c3.size=G*5:=by rw [f2,g2,hR]
       obtain ⟨k1,k2⟩:=kD (w1:=((((w.alloc (.cells ROW 117)).drew.setCells w.heap.size 0 us).drew).setCells w.heap.size 5 cs)) (l:=x++l) (c':=c3) (e:=117) (fz:=(0,0)) hkill hB
        (by rw [size_setCells];show (World.setCells _ _ _ _).heap.size=_;rw [size_setCells];simp)
        (fun q hq=>by
         rw [heap_setCells_other _ _ _ _ (by omega)];show (World.setCells _ _ _ _).heap[q]?=_;rw [heap_setCells_other _ _ _ _ (by omega)]
         exact Below.heap_alloc w _ q hq) false 5 f1 (.inl rfl) (by omega) (fun t u ht=>by
         have ht':t<(x++l).length:=(lS.1 ht).1;have hll:(x++l).length=(us++cs).length:=hlx.1;refine ⟨(us++cs)[t]'(by omega),?_,hlx.2 t _ _ ht (gE (by omega))⟩;rw [f3,o2];by_cases htu:t<5
         ·rw [if_neg (by omega),g3,u2,if_pos (by omega),List.getElem_append_left (by omega),<-gE];congr 1
         ·rw [if_pos (by omega),List.getElem_append_right (by omega),<-gE]
          congr 1;omega)
       refine ⟨_,rfl,_,k2,k1,.slice _ _ _ _ _ ⟨rfl,_,ba _ _ _,rfl⟩ (.inr ⟨hG,_,ba _ _ _,rfl,?_,?_⟩) (nR _),((((bR B w).alloc hB _).drew).trans (below_setCells hB _ _ _)).drew.trans (below_setCells hB _ _ _)⟩
       ·simp only [Nat.zero_add];exact hlen.symm
       ·simp [hc3]
     ·cases h0
    ·cases h0
  ·cases h
 ·cases h
end
end Go.Proofs.YtgohffhoapkeaaaGreatDoor.Ev
namespace Go.Proofs.YtgohffhoapkeaaaGreatDoor.Ev
open Go.RowKit Go.Extern Go.Lib
variable {ω:Nat->Value}
noncomputable def oO (s:AS) (v:Value):Option (List UInt8):=match v with
 | .slice none 0 0=>some []
 | .slice (some p) n _=>match cq s p n with
  | some l=>bytesOf l
  | none=>none
 | _=>none
noncomputable def j9:mC
 | [a,b],s=>match oO s a,oO s b with
  | some x,some y=>some (.int .i64 (BytealgCompare.cmp ⟨x.toArray⟩ ⟨y.toArray⟩),s)
  | _,_=>none
 | _,_=>none
section
variable {B:Nat} {X:cK} {m:M ω} {s s':AS} {w:World}
theorem qU (hs:SR B X m s w) {v v':Value} {x:List UInt8} (hv:VRel m v v') (h:oO s v=some x):(Bytes.bytesOf v').run Tryz.prog w=.ok ⟨x.toArray⟩ w:=by
 unfold oO at h
 split at h
 ·cases h
  obtain rfl:=bM hv;rfl
 ·rename_i p k c
  split at h
  ·rename_i l hl;obtain ⟨q,rfl,rfl⟩:=jm h;obtain ⟨p',c',rfl,hor⟩:=aU hv
   obtain ⟨hk,hcell⟩:q.length=k/\∀ j x,q[j]?=some x->w.cell? (p'.add j)=some (.int .u8 x):=by
    rcases hor with ⟨hp,_,_⟩ | ⟨rfl,_,_⟩
    ·obtain ⟨l',g1,g2,g3⟩:=aL hs hl hp;obtain rfl:=g1.ints;exact ⟨by simpa using g2,fun j x hj=>g3 j _ (by rw [List.getElem?_map,hj];rfl)⟩
    ·have hq:q=[]:=by simpa using ey hl
     subst hq;exact ⟨rfl,fun j x hj=>by simp at hj⟩
   subst hk;show (Bytes.loadBytes p' q.length .empty).run Tryz.prog w=_;rw [run_loadBytesX w q p' ByteArray.empty hcell]
   have e:(ByteArray.empty.data++(q.map fun x=>UInt8.ofNat x.toNat).toArray)=(q.map fun x=>UInt8.ofNat x.toNat).toArray:=by
    show #[]++_=_;simp
   exact congrArg (fun d=>Result.ok (ByteArray.mk d) w) e
  ·cases h
 ·cases h
theorem yP {vs:List Value} {v:Value} {args:Array Value} (hs:SR B X m s w) (hl:LRel m vs args.toList) (h:j9 vs s=some (v,s')) :
 ∃ v' w',(BytealgCompare.compare args).run Tryz.prog w=.ok v' w'/\cU B X m s' w v v' w':=by
 unfold j9 at h
 split at h
 ·split at h
  ·rename_i x y hx hy
   cases h
   obtain ⟨x',y',rfl,h1,h2⟩:=ss hl;refine ⟨_,w,?_,cU.same hs (.plain _ rfl)⟩;show (do pure (goInt (BytealgCompare.cmp (<-Bytes.bytesOf x') (<-Bytes.bytesOf y'))):Sem Value).run Tryz.prog w=_;simp only [Sem.run_bind,qU hs h1 hx,qU hs h2 hy,Result.andThen,Sem.run_pure];rfl
  ·cases h
 ·cases h
end
noncomputable def qV:mC:=fun vs s=>match D9 vs s with
 | some r=>some r
 | none=>(ev (CE [] [] noCnv noRd) 100).f 66 vs s
theorem IC {C:Ctx} (hG:lp C) {B:Nat} {w:World} (hB:Bs ω C B w):Bs ω (CE [] [] noCnv noRd) B w :=
 ⟨hB.le,fun g v h=>hB.gl g v (by rw [hG.1];exact h),fun k h=>(by cases h),fun g cs h=>hB.iv g cs (hG.2 g cs h)⟩
theorem uG (C:Ctx) (hP:C.P=Tryz.prog):gj ω C 46 j9:=by
 intro vs s v s' hv B X m w args hs hr hB;exact fb hP BytealgCompare.compare Tryz.func46 (by kernel_rfl) (by kernel_rfl) (by kernel_rfl) (by kernel_rfl) (yP hs hr hv)
theorem wS (hh:Hands ω) (C:Ctx) (hP:C.P=Tryz.prog) (hG:lp C):gj ω C 66 qV:=by
 intro vs s v s' hv B X m w args hs hr hB;have hC:uJ ω (CE [] [] noCnv noRd):=GC hh (fun f hf=>by cases hf) (fun f hf=>by cases hf) mn noRd;unfold qV at hv
 split at hv
 ·rename_i r hi
  cases hv
  refine jq (by rw [hP];exact hC.ok.call 66 _ rfl rfl args w) fun n=>?_;rw [hP];exact callsIn_wide.2 (G6 hB.le hs hr hi)
 ·have key:=((sound hC 100).2.2.2.1 _ vs s v s' hv B X m w args hs hr (IC hG hB)).2 rfl;refine jq (by rw [hP];exact key.1 _ _) fun n=>?_;rw [hP];exact key.2 n
noncomputable def G7:List (FuncId × mC):=[(46,j9),(66,qV)]
theorem FC (hh:Hands ω):∀ p∈G7,∀ C:Ctx,C.P=Tryz.prog->lp C->gj ω C p.1 p.2:=by
 intro p hp C hP hG;simp only [G7,List.mem_cons,List.not_mem_nil,or_false] at hp
 rcases hp with rfl | rfl
 ·exact uG C hP
 ·exact wS hh C hP hG
end Go.Proofs.YtgohffhoapkeaaaGreatDoor.Ev
namespace Go.Proofs.YtgohffhoapkeaaaGreatDoor.Ev
open Go.RowKit
variable {ω:Nat->Value}
def tk (k:Nat):Value:=.chan (some k)
def i64 (n:Int):Value:=.int .i64 n
noncomputable def gJ:List (FuncId × mC):=G5++G7
theorem FD (hh:Hands ω):∀ p∈gJ,∀ C:Ctx,C.P=Tryz.prog->lp C->gj ω C p.1 p.2:=by
 intro p hp
 rcases List.mem_append.1 hp with h | h
 ·exact FA hh p h
 ·exact FC hh p h
end Go.Proofs.YtgohffhoapkeaaaGreatDoor.Ev
namespace Go.Proofs.YtgohffhoapkeaaaGreatDoor
section
open Go.RowKit
open Ev (ev evR evR_eq AS st1 noCnv noRd VRel LRel Hands hBase cxOK globT isV)
theorem B5:isV (.bool true) ((evR (Ev.CX Ev.gJ [] [] noCnv noRd) 100000).f 10 [] ⟨0,.leaf⟩)=true:=by kernel_rfl
theorem Ad {w:World} (hg:ay w) (ht:aH w):Calls Tryz.prog 10 #[] w fun e w'=>e=.returned (.bool true)/\Below w.heap.size w w':=by
 have hr:=B5;rw [evR_eq] at hr;obtain ⟨s,hs⟩:∃ s,(ev (Ev.CX Ev.gJ [] [] noCnv noRd) 100000).f 10 [] ⟨0,.leaf⟩=some (.bool true,s):=Ev.wQ hr;exact Ev.Dl (C:=Ev.CX Ev.gJ [] [] noCnv noRd) (ω:=Jc) (cxOK yO (Ev.FD yO) (fun f hf=>by cases hf) (fun f hf=>by cases hf) Ev.mn noRd) hs (LRel.nil _) rfl (by kernel_rfl) w (FB hg) (fun k h=>by cases h) (B4 ht)
end
end Go.Proofs.YtgohffhoapkeaaaGreatDoor
