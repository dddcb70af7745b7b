/- A part of the proof of ScanWild. No condition of its own. -/
import Derived.Test.YtgohffhoapkeaaaGreatDoorVz
import Derived.Test.YtgohffhoapkeaaaGreatDoorZj
import Derived.RangeFuncNested
import Derived.RangeFuncBound
import Derived.RangeFuncCalls
import Derived.RangeFuncLeaves
import Derived.RangeFuncWrites
import Derived.RangeFuncFrom
import Derived.Sort.QuietTacIn
import Derived.WalkKit
import Derived.OwnWalkIn
import Derived.TacticsInMore
import Derived.RegionIn
import Derived.LoopNIn
import Derived.LoopIn
set_option maxHeartbeats 4000000
set_option maxRecDepth 1000000
set_option linter.unusedVariables false
namespace Go.Proofs.YtgohffhoapkeaaaGreatDoor
section
open Go.RowKit
theorem aG {P:Program} {fn:Func} {p q q2:Tmp} {ty:TypeId} (h:fn.results=#[.cell p ty,.tmp q,.tmp q2]) (tmps:Array Value) (w:World) (g:Nat) (t:TypeId) (cs:Array Value) (fr:Nat × Nat) (d:TypeDesc)
 (hp:tmps.getD p undef=.pointer (some ⟨g,0,none⟩)) (hg:w.heap[g]?=some (.cells cs t fr))
 (hu:P.underlying ty=some d) (hd:(match d with | .struct _ | .array _ _=>true | _=>false)=true) (hi:(P.info? ty).map (·.size)=some cs.size) :
 (results fn tmps).run P w=.ok (.tuple #[.agg cs,tmps.getD q undef,tmps.getD q2 undef]) w:=by
 have hp':tmps[p]?.getD undef=.pointer (some ⟨g,0,none⟩):=by simpa using hp
 simp [results,h,hp',asAddr,run_loadVar_row w g t ty cs fr d hg hu hd hi]
def lm (cs:Array Value):Prop:=∀ (i:Nat) (v:Value),cs[i]?=some v->∃ a n c,v=.slice a n c
theorem nU {w:World} {g:Nat} {t:TypeId} {cs:Array Value} (hB:aa w g t cs) (hs:lm cs) {a:Addr} {v:Value} (h:w.cell? a=some v) (hg:a.block=g):∃ b n c,v=.slice b n c:=by
 unfold World.cell? at h;unfold aa at hB;rw [hg,hB] at h;simp only at h
 split at h
 ·cases h
 ·exact hs _ _ h
theorem dS {w:World} {B g:Nat} {t:TypeId} {cs:Array Value} {A:Option Addr} {b:List UInt8} (h:Reads w B 1 A b.length (bl b)) (hB:aa w g t cs) (hs:lm cs):b.length≠0->∀ ad,A=some ad->¬ ad.block=g:=fun h0 ad e hg=>by
 obtain ⟨a,e1,_,h2⟩:=h.2 (Nat.pos_of_ne_zero h0);rw [e1] at e
 cases e
 cases b with
 | nil=>exact h0 rfl
 | cons x b =>
  have hbk:(ad.add 0).block=ad.block:=by unfold Addr.add;split <;> rfl
  obtain ⟨_,_,_,h3⟩:=nU hB hs (h2 0 (.int .u8 (x.toNat:Int)) (by rfl)) (hbk.trans hg)
  cases h3
theorem CO.slices {N:Nat->Prop} {w w':World} {A:Option Addr} {l:List CX} {g:Nat} {t:TypeId} {cs:Array Value} (h:CO N w A l) (hB:aa w g t cs) (hs:lm cs) (hf:Fr (fun k=>k=g) w w'):CO N w' A l:=by
 have h2:CO (fun k=>N k\/k=g) w A l:=by
  refine ⟨h.at_,fun h0 ad e hh=>?_,fun y hy h0 ad e hh=>?_,fun y hy h0 ad e hh=>?_⟩
  ·rcases hh with hh | hh
   ·exact h.ra h0 ad e hh
   ·rcases h.at_.row with h1 | ⟨g1,o,e1,hg1,hc⟩
    ·exact h0 h1
    ·rw [e1] at e
     cases e
     cases l with
     | nil=>exact h0 rfl
     | cons y l =>
      obtain ⟨_,_,_,h3⟩:=nU hB hs (hc 0 y rfl 1 _ rfl) hh
      cases h3
  ·exact hh.elim (h.ka y hy h0 ad e) (dS (h.at_.key y hy) hB hs h0 ad e)
  ·exact hh.elim (h.va y hy h0 ad e) (dS (h.at_.val y hy) hB hs h0 ad e)
 exact (h2.fr hf (fun k e=>.inr e)).mono (fun k _ hk=>.inl hk)
theorem CW.slices {Z:Nat->Prop} {ty B p T:Nat} {w w':World} {A:Option Addr} {cc:Nat} {kA:Option Addr} {kc:Nat} {l:List LX} {s:SW} {g:Nat} {t:TypeId} {cs:Array Value} (h:CW Z ty B p T w A cc kA kc l s) (hB:aa w g t cs) (hs:lm cs) (hf:Fr (fun k=>k=g) w w') (hg:¬ RW p A g):CW Z ty B p T w' A cc kA kc l s :=
 ⟨h.blk.fr hf (fun e=>hg (.inl e.symm)),h.lo,⟨fB h.rows.row (fun ad e=>hf.block ad.block (h.rows.lo_row ad e).2 (fun e2=>hg (.inr ⟨ad,e,e2⟩))),fun s hs2=>⟨(h.rows.lv s hs2).cells.slices hB hs hf,(h.rows.lv s hs2).many,(h.rows.lv s hs2).fit,(h.rows.lv s hs2).lo,(h.rows.lv s hs2).hi⟩,h.rows.sep⟩,ax h.key hf (dS h.key hB hs),h.keyN,h.way,h.few,h.pg,h.dir,fun k hk=>lT (h.zlt k hk) hf.size⟩
theorem bU:lm #[.slice none 0 0,.slice none 0 0]:=fun i v h=>by
 match i with
 | 0=>cases h;exact ⟨_,_,_,rfl⟩
 | 1=>cases h;exact ⟨_,_,_,rfl⟩
 | i+2=>simp at h
theorem zX {w:World} {B e size n c:Nat} {A:Option Addr} {xs:List Value} (h:w.ownsRow B e size (.slice A n c) n xs):n<=c:=by
 rcases h.2 with ⟨_,e2⟩ | ⟨g,cap,cur,e1,e2,e3,e4,_⟩
 ·omega
 ·simp only [Value.slice.injEq] at e1;omega
def iM (Z:Nat->Prop) (ty B p T H:Nat) (A:Option Addr) (cc:Nat) (l:List LX) (r:Except Int (eS × SW)) (a1:Option Addr) (m1 k1:Nat) (a2:Option Addr) (m2 k2:Nat) (v:Value) (b:Bool) (W:World):Prop:=match r with
 | .error k=>a1=none/\m1=0/\k1=0/\a2=none/\m2=0/\k2=0/\b=false/\k≠0/\dX H W k v/\∃ cs,aa W p ty cs/\cs.size=6
 | .ok ((key,val),s')=>b=true/\m1=key.length/\m2=val.length/\CW Z ty B p T W A cc a1 k1 l s'/\s'.last=key/\Reads W W.heap.size 1 a2 val.length (bl val)/\(val.length≠0->∀ ad,a2=some ad->¬ WZ Z B p A ad.block)
theorem uz.one {Z:Nat->Prop} {ty B p T:Nat} {w:World} {A:Option Addr} {cc:Nat} {l:List LX} {r:Except Int (eS × SW)} {e:Ending} {w':World} (h:uz Z ty B p T w A cc l r e w'):∃ a1 m1 k1 a2 m2 k2 v b,e=.returned (.tuple #[.agg #[.slice a1 m1 k1,.slice a2 m2 k2],v])/\((v=.nilIface/\b=true)\/((∃ tv pe,v=.iface tv pe)/\b=false))/\Fr (RW p A) w w'/\iM Z ty B p T w.heap.size A cc l r a1 m1 k1 a2 m2 k2 v b w':=by
 obtain ⟨h,hf⟩:=h
 cases r with
 | error k =>
  obtain ⟨v,cs,rfl,hk,hv,hb,hc⟩:=h;refine ⟨none,0,0,none,0,0,v,false,rfl,.inr ⟨?_,rfl⟩,hf,rfl,rfl,rfl,rfl,rfl,rfl,rfl,hk,hv,cs,hb,hc⟩
  rcases hv with ⟨h9,_⟩ | ⟨_,e9⟩ | ⟨_,r,op,nm,e9,_⟩
  ·exact absurd h9 hk
  ·exact ⟨_,_,e9⟩
  ·exact ⟨_,_,e9⟩
 | ok r =>
  obtain ⟨⟨key,val⟩,s'⟩:=r;obtain ⟨k2,c2,vA,vc,rfl,h1,h2,h3,h4⟩:=h;exact ⟨k2,_,c2,vA,_,vc,.nilIface,true,rfl,.inl ⟨rfl,rfl⟩,hf,rfl,rfl,rfl,h1,h2,h3,h4⟩
theorem iM.below {Z:Nat->Prop} {ty B p T H:Nat} {A:Option Addr} {cc:Nat} {l:List LX} {r:Except Int (eS × SW)} {a1:Option Addr} {m1 k1:Nat} {a2:Option Addr} {m2 k2:Nat} {v:Value} {b:Bool} {W W':World} (h:iM Z ty B p T H A cc l r a1 m1 k1 a2 m2 k2 v b W) (hb:Below W.heap.size W W'):iM Z ty B p T H A cc l r a1 m1 k1 a2 m2 k2 v b W':=by
 unfold iM at *
 split at h
 ·obtain ⟨x1,x2,x3,x4,x5,x6,x7,x8,x9,cs,y1,y2⟩:=h;exact ⟨x1,x2,x3,x4,x5,x6,x7,x8,x9.keep fun r _ hl=>hb.block r hl,cs,(hb.block p y1.lt).trans y1,y2⟩
 ·obtain ⟨x1,x2,x3,x4,x5,x6,x7⟩:=h;exact ⟨x1,x2,x3,x4.below hb,x5,rM (x6.below hb) hb.size,x7⟩
theorem iM.slices {Z:Nat->Prop} {ty B p T H g te:Nat} {A:Option Addr} {cc:Nat} {l:List LX} {r:Except Int (eS × SW)} {a1:Option Addr} {m1 k1:Nat} {a2:Option Addr} {m2 k2:Nat} {v:Value} {b:Bool} {W W':World} {cs:Array Value} (h:iM Z ty B p T H A cc l r a1 m1 k1 a2 m2 k2 v b W) (hB:aa W g te cs) (hs:lm cs) (hf:Fr (fun k=>k=g) W W') (hg:¬ RW p A g) (hH:g<H):iM Z ty B p T H A cc l r a1 m1 k1 a2 m2 k2 v b W':=by
 unfold iM at *
 split at h
 ·obtain ⟨x1,x2,x3,x4,x5,x6,x7,x8,x9,cs,y1,y2⟩:=h;exact ⟨x1,x2,x3,x4,x5,x6,x7,x8,x9.fr hf (fun r hr _ e=>by have e:r=g:=e;omega),cs,y1.fr hf (fun e=>hg (.inl e.symm)),y2⟩
 ·obtain ⟨x1,x2,x3,x4,x5,x6,x7⟩:=h;exact ⟨x1,x2,x3,x4.slices hB hs hf hg,x5,ax x6 hf (dS x6 hB hs),x7⟩
theorem iM.lo {Z:Nat->Prop} {ty B p T H H':Nat} {A:Option Addr} {cc:Nat} {l:List LX} {r:Except Int (eS × SW)} {a1:Option Addr} {m1 k1:Nat} {a2:Option Addr} {m2 k2:Nat} {v:Value} {b:Bool} {W:World} (h:iM Z ty B p T H A cc l r a1 m1 k1 a2 m2 k2 v b W) (hH:H'<=H):iM Z ty B p T H' A cc l r a1 m1 k1 a2 m2 k2 v b W:=by
 unfold iM at *
 split at h
 ·obtain ⟨x1,x2,x3,x4,x5,x6,x7,x8,x9,x10⟩:=h;exact ⟨x1,x2,x3,x4,x5,x6,x7,x8,x9.lo hH,x10⟩
 ·exact h
def mu (s:SW):Nat:=(513-s.pages)*25+s.way.length
def Fg (Z:Nat->Prop) (ty B p T:Nat) (w:World) (A kA:Option Addr) (kc:Nat) (r:Except Int (Option eS × SW)) (e:Ending) (w':World):Prop:=(match r with
 | .error k=>∃ v cs,e=.returned (.tuple #[zeroV,.bool false,v])/\k≠0/\dX w.heap.size w' k v/\aa w' p ty cs/\cs.size=6
 | .ok (none,s')=>e=.returned (.tuple #[zeroV,.bool false,.nilIface])/\∃ A' cc' l',CW Z ty B p T w' A' cc' kA kc l' s'/\AR w.heap.size A A'
 | .ok (some (key,val),s')=>∃ k2 c2 vA vc,e=.returned (.tuple #[ot k2 key.length c2 vA val.length vc,.bool true,.nilIface])/\s'.last=key/\Reads w' w'.heap.size 1 vA val.length (bl val) /\
  ∃ A' cc' l',CW Z ty B p T w' A' cc' k2 c2 l' s'/\AR w.heap.size A A'/\(val.length≠0->∀ ad,vA=some ad->¬ WZ Z B p A' ad.block))/\Fr (RW p A) w w'
theorem mz {t:PT} {lo:Key} {c':SW}:∀ {f n:Nat} {c:SW},bk t f c n lo=.ok c'->c.pages<c'.pages
 | 0,n,c,h=>by cases h
 | f+1,n,c,h=>by
  unfold bk at h
  split at h
  ·cases h
  ·split at h
   ·cases h
    show c.pages<c.pages+1;omega
   ·exact Nat.lt_trans (Nat.lt_succ_self _) (mz h)
theorem DJ {Z:Nat->Prop} {B p T M:Nat} {X:Nat->Prop} {w:World} {t:PT} {A:Option Addr} {cc:Nat} {kA:Option Addr} {kc:Nat} {l:List LX} {s:SW} (h:aR Z 75 B p T M X w t A cc kA kc l s) (hmu:mu s<110000) :
 Calls Tryz.prog 30 #[.pointer (some ⟨p,0,none⟩)] w fun e w'=>Fg Z 75 B p T w A kA kc (iI t 110000 s) e w':=by
 obtain ⟨w1,hw1⟩:∃ w1,w1=w.alloc (.cells #[.slice none 0 0,.slice none 0 0] 41):=⟨_,rfl⟩
 have hb1:Below w.heap.size w w1:=by rw [hw1];exact (bR _ w).alloc (nR _) _
 have hE1:aa w1 w.heap.size 41 #[.slice none 0 0,.slice none 0 0]:=by rw [hw1];exact aa.new _ _ _
 have hA1:=h.next (Fr.of_below hb1) (h.cur.below hb1);have hpl:=h.cur.blk.lt;have hAl:∀ ad,A=some ad->ad.block<w.heap.size:=fun ad e=>(h.cur.rows.lo_row ad e).2;have hs1:w.heap.size<w1.heap.size:=hE1.lt;have HH:=lH (aI h (aI hA1 (aI hE1 hb1)));have HW1:=lH hw1
 obtain ⟨R,HR⟩:∃ R,Hid (iI t 110000 s=R):=⟨_,lH rfl⟩
 rw [HR.out];clear h hA1 hE1 hw1 hb1;go_enter Tryz.func30,Tryz.ntmps30
 go_wp2_with fail
 rw [<-HW1.out]
 go_loopw [5] (fun _ wr=>∃ (l1:List LX) (A1:Option Addr) (c1 f:Nat) (s1:SW),aR Z 75 B p T M X wr t A1 c1 kA kc l1 s1/\R=iI t f s1/\mu s1<f/\AR w1.heap.size A A1/\Fr (RW p A) w1 wr) (fun _ wr=>match wr.cell? ⟨p,1,none⟩,wr.cell? ⟨p,4,none⟩ with
  | some (.slice _ n _),some (.int _ g)=>(513-g.toNat)*25+n
  | _,_=>0)
 case atStart=>exact ⟨l,A,cc,110000,s,HH.out.2.1,HR.out.symm,hmu,AR.refl _ _,Fr.refl _ _⟩
 case round =>
  obtain ⟨l1,A1,c1,f,s1,hE,hR,hf,hAR,hF⟩:=hrel
  obtain ⟨wo,rfl⟩:∃ wo,wo=wr:=⟨wr,rfl⟩
  obtain ⟨f,rfl⟩:∃ f',f=f'+1:=⟨f-1,by omega⟩
  have hres:aa wo w.heap.size 41 #[.slice none 0 0,.slice none 0 0]:=HH.out.2.2.1.fr hF (fun e=>by
   rcases e with e | ⟨ad,e1,e2⟩
   ·omega
   ·have:=hAl ad e1;omega)
  have hm1:wo.cell? ⟨p,1,none⟩=some (.slice A1 l1.length c1):=hE.cur.blk.cell 1;have hm4:wo.cell? ⟨p,4,none⟩=some (.int .i64 (s1.pages:Nat)):=hE.cur.blk.cell 4;have hpo:=hE.cur.blk.lt;have hfew:=hE.cur.few;have HI:=lH (aI hE (aI hR (aI hAR hF)))
  rcases List.eq_nil_or_concat l1 with rfl | ⟨l0,x,hl1⟩
  ·clear hE hR hAR hF;have hm1:wo.cell? ⟨p,1,none⟩=some (.slice A1 0 c1):=hm1
   go_wp2_with (refine wpList_store_row rfl 41 _ _ rfl w.heap.size _ rfl rfl 41 _ hres (by kernel_rfl) rfl (by simp [Value.oneCell']) ?_)
   refine bodyPost_ret (aG rfl _ _ w.heap.size 41 _ (0,0) _ rfl (setRow_heap _ _ _ _ _ _ hres) Tryz.underlying41 rfl (by kernel_rfl)) rfl ?_;obtain ⟨hE,hR,hAR,hF⟩:=HI.out;have hw0:s1.way=[]:=hE.cur.way.symm
   have hR9:R=.ok (none,s1):=by
    rw [hR];unfold iI;rw [hw0];rfl
   rw [hR9];have hF9:∀ cs,Fr (RW p A) w (wo.setRow w.heap.size cs):=fun cs=>((Fr.of_below HH.out.2.2.2).trans hF).late (fS _ w.heap.size _) (fun k hk e=>by have e:k=w.heap.size:=e;omega);have hAR9:AR w.heap.size A A1:=fun a e=>(hAR a e).imp id (fun h=>by omega)
   exact ⟨⟨rfl,A1,c1,[],hE.cur.slices hres bU (fS _ _ _) (fun e=>by
    rcases e with e | ⟨ad,e1,e2⟩
    ·omega
    ·rcases hAR ad e1 with ⟨a,e3,e4⟩ | h9
     ·have:=hAl a e3;omega
     ·omega),hAR9⟩,hF9 _⟩
  ·rw [List.concat_eq_append] at hl1;subst hl1;obtain ⟨g,rfl,hBg,hgl,e0,_⟩:=eF hE.cur.rows.row (cg (l:=l0) (s:=x) (j:=0) (u:=.bool x.leaf) rfl);obtain ⟨g1,hg1,_,_,e1,_⟩:=eF hE.cur.rows.row (cg (l:=l0) (s:=x) (j:=1) (u:=.slice x.la x.l.length x.lc) rfl)
   cases hg1
   obtain ⟨g1,hg1,_,_,e2,f2⟩:=eF hE.cur.rows.row (cg (l:=l0) (s:=x) (j:=2) (u:=.int .i64 x.next) rfl)
   cases hg1
   obtain ⟨K,HK⟩:∃ K,Hid (l0.length=K):=⟨_,lH rfl⟩
   rw [lQ,List.length_singleton] at hm1 hfew;rw [HK.out] at e0 e1 e2 f2 hm1 hfew;have e0:wo.cell? ⟨g,K*3,none⟩=some (.bool x.leaf):=e0;have hLO:=hE.cur.rows.lv x (by simp);have hDI:=hE.cur.dir x (by simp);have hx1:=hLO.lo;have hx2:=hLO.hi;have hx3:=hLO.many
   have a1:IntKind.i64.wrap (K:Int)=(K:Int):=by rw [IntKind.wrap_i64];omega
   have a2:(0:Int)<=(K:Int):=by omega
   have a3:(K:Int)<(K:Int)+1:=by omega
   have a4:((K:Int)).toNat=K:=by omega
   have a5:(0:Int)<(K:Int)+1:=by omega
   have HX:=lH (aI hLO (aI hDI hBg));have HG:=lH hgl;clear hE hR hAR hF hLO hDI hBg;have a7:=zX HI.out.1.cur.rows.row;rw [lQ,List.length_singleton,HK.out] at a7
   have a6:(K:Int)<=(c1:Int):=by omega
   have hlast:s1.way.getLast?=some x.sl:=by rw [<-HI.out.1.cur.way];simp
   have HLA:=lH hlast
   have hwl:s1.way.length=K+1:=by rw [HI.out.1.cur.len,lQ,List.length_singleton,HK.out]
   have HWL:=lH hwl;clear hlast hwl;by_cases hpop:(x.l.length:Int)<=x.next
   ·have d1:decide ((x.l.length:Int)<=x.next)=true:=dT hpop
    go_wp2_with fail
    go_quiet (fail)
    revert nq
    intro n0
    go_wp2_with fail
    go_quiet (fail)
    go_wp2_with fail
    obtain ⟨W0,hW0⟩:∃ W0,(wo.drewN n0).drewN nq=W0:=⟨_,rfl⟩
    have hb0:Below wo.heap.size wo W0:=by rw [<-hW0];exact ⟨rfl,rfl,rfl,nR _,fun _ _=>rfl⟩
    rw [hW0];obtain ⟨hE,hR,hAR,hF⟩:=HI.out;have hC0:=hE.cur.below hb0;have q1:W0.cell? ⟨p,1,none⟩=some (.slice (some ⟨g,0,none⟩) (K+1) c1):=(hb0.cell (p:=⟨p,1,none⟩) hpo).trans hm1;have q1d:W0.drew.cell? ⟨p,1,none⟩=some (.slice (some ⟨g,0,none⟩) (K+1) c1):=q1;have q1f:W0.frozen? ⟨p,1,none⟩=false:=hC0.blk.frozen 1;have hC9:=hC0.pop.below ((bR _ _).drew);rw [HK.out] at hC9;have k1:=hC9.blk.cell 1;have k4:=hC9.blk.cell 4;rw [HK.out] at k1
    have hR2:R=iI t f s1.pop:=by
     rw [hR]
     conv=>lhs;unfold iI
     rw [HLA.out];simp only;rw [show x.sl.l[x.sl.next.toNat]?=none from List.getElem?_eq_none (by show (x.l.map CX.c).length<=x.next.toNat;rw [List.length_map];omega)]
    have hmu2:mu s1.pop<f:=by
     unfold mu SW.pop at *;simp only [List.length_dropLast];have:=HWL.out;omega
    have hF2:Fr (RW p (some ⟨g,0,none⟩)) wo (W0.setCell ⟨p,1,none⟩ (.slice (some ⟨g,0,none⟩) K c1)).drew:=((Fr.of_below hb0).trans (aT (.inl rfl))).drew;have hE9:=hE.next hF2 hC9;have hF9:=hF.rw hAR hF2;have HFIN:=lH (aI hE9 (aI hR2 (aI hmu2 (aI hAR hF9))));clear hE hR hAR hF hC0 hC9 hR2 hmu2 hF2 hE9 hF9 hW0;refine bB 14 (fun W=>W.cell? ⟨p,1,none⟩=some (.slice (some ⟨g,0,none⟩) (K+1) c1)) (q1d) (fun hHeld hTl=>?_);refine ae 0 hTl hHeld (fun hTl=>?_)
    try simp only [pT]
    refine ae 1 hTl hHeld (fun hTl=>?_)
    try simp only [pT]
    refine ae 2 hTl hHeld (fun hTl=>?_)
    try simp only [pT]
    refine ae 3 hTl hHeld (fun hTl=>?_)
    try simp only [pT]
    refine ae 4 hTl hHeld (fun hTl=>?_)
    try simp only [pT]
    refine ae 5 hTl hHeld (fun hTl=>?_)
    try simp only [pT]
    refine ae 6 hTl hHeld (fun hTl=>?_)
    try simp only [pT]
    refine ae 7 hTl hHeld (fun hTl=>?_)
    try simp only [pT]
    refine ae 8 hTl hHeld (fun hTl=>?_)
    try simp only [pT]
    refine ae 9 hTl hHeld (fun hTl=>?_)
    try simp only [pT]
    refine ae 10 hTl hHeld (fun hTl=>?_)
    try simp only [pT]
    refine ae 11 hTl hHeld (fun hTl=>?_)
    try simp only [pT]
    refine ae 12 hTl hHeld (fun hTl=>?_)
    try simp only [pT]
    refine ae 13 hTl hHeld (fun hTl=>?_)
    try simp only [pT]
    clear hTl;refine az 14 (fun K hK=>?_);go_simp;refine hK.out _ _ ?_;clear hK K
    try simp only [pT]
    refine az 15 (fun K hK=>?_);go_simp;refine hK.out _ _ ?_;clear hK K
    try simp only [pT]
    refine az 16 (fun K hK=>?_);go_simp;refine hK.out _ _ ?_;clear hK K
    try simp only [pT]
    refine az 17 (fun K hK=>?_);go_simp;refine hK.out _ _ ?_;clear hK K
    try simp only [pT]
    refine cW ?_ _
    go_wp2_with fail
    go_roundw
    case rel=>exact ⟨l0,some ⟨g,0,none⟩,c1,f,s1.pop,HFIN.out.1,HFIN.out.2.1,HFIN.out.2.2.1,HFIN.out.2.2.2.1,HFIN.out.2.2.2.2⟩
    case measure =>
     rw [hm1,hm4,k1,k4];show (513-((s1.pages:Nat):Int).toNat)*25+K<(513-((s1.pages:Nat):Int).toNat)*25+(K+1);omega
   ·have d1:decide ((x.l.length:Int)<=x.next)=false:=dF hpop
    obtain ⟨j,HJ⟩:∃ j:Nat,Hid (x.next=(j:Int)/\j<x.l.length):=⟨x.next.toNat,lH (by have:=HX.out.2.1.1 rfl;omega)⟩
    obtain ⟨z,hz⟩:∃ z,x.l[j]?=some z:=⟨_,gE HJ.out.2⟩
    obtain ⟨gc,o,hla,hgc,hcc⟩:=HX.out.1.cells.at_.at_ (by have:=HJ.out.2;omega);obtain ⟨z0,z1,z2,z3,z4⟩:=hcc j z hz;have hj:=HJ.out;rw [hla] at e1;rw [hj.1] at e2 d1
    have j1:(0:Int)<=(j:Int):=by omega
    have j2:(j:Int)<(x.l.length:Int):=by omega
    have j3:((j:Int)).toNat=j:=by omega
    obtain ⟨n2,HN2⟩:∃ n2:Int,Hid ((j:Int)+1=n2):=⟨_,lH rfl⟩
    have e9:IntKind.i64.wrap ((j:Int)+1)=n2:=by rw [IntKind.wrap_i64];have:=HN2.out;omega
    have HZ:=lH (aI hz hla);clear hz hla hcc hj hpop
    go_wp2_with fail
    go_quiet (fail)
    revert nq
    intro n0
    go_wp2_with fail
    go_quiet (fail)
    go_wp2_with fail
    obtain ⟨W0,hW0⟩:∃ W0,(wo.drewN n0).drewN nq=W0:=⟨_,rfl⟩
    have hb0:Below wo.heap.size wo W0:=by rw [<-hW0];exact ⟨rfl,rfl,rfl,nR _,fun _ _=>rfl⟩
    rw [hW0];have hgl:=HG.out
    have kS:∀ W,Below wo.heap.size wo W->(W.cell? ⟨g,K*3+1,none⟩=some (.slice (some ⟨gc,o,none⟩) x.l.length x.lc)/\W.cell? ⟨g,K*3+2,none⟩=some (.int .i64 (j:Nat))/\W.cell? ⟨gc,o+j*5,none⟩=some (.slice z.ka z.c.key.length z.kc)/\W.cell? ⟨gc,o+j*5+1,none⟩=some (.int .i64 z.c.size)/\W.cell? ⟨gc,o+j*5+2,none⟩=some (.slice z.va z.c.val.length z.vc)/\W.cell? ⟨gc,o+j*5+3,none⟩=some (.int .u32 (z.c.over:Nat))/\W.cell? ⟨gc,o+j*5+4,none⟩=some (.int .u32 (z.c.kid:Nat))):=fun W hW=>⟨(hW.cell (p:=⟨g,K*3+1,none⟩) hgl).trans e1,(hW.cell (p:=⟨g,K*3+2,none⟩) hgl).trans e2,(hW.cell (p:=⟨gc,o+j*5,none⟩) hgc).trans z0,(hW.cell (p:=⟨gc,o+j*5+1,none⟩) hgc).trans z1,(hW.cell (p:=⟨gc,o+j*5+2,none⟩) hgc).trans z2,(hW.cell (p:=⟨gc,o+j*5+3,none⟩) hgc).trans z3,(hW.cell (p:=⟨gc,o+j*5+4,none⟩) hgc).trans z4⟩
    have HKS:=lH kS;clear kS hW0 hgl;refine bB 11 (fun W=>W.cell? ⟨g,K*3+1,none⟩=some (.slice (some ⟨gc,o,none⟩) x.l.length x.lc)/\W.cell? ⟨g,K*3+2,none⟩=some (.int .i64 (j:Nat))/\W.cell? ⟨gc,o+j*5,none⟩=some (.slice z.ka z.c.key.length z.kc)/\W.cell? ⟨gc,o+j*5+1,none⟩=some (.int .i64 z.c.size)/\W.cell? ⟨gc,o+j*5+2,none⟩=some (.slice z.va z.c.val.length z.vc)/\W.cell? ⟨gc,o+j*5+3,none⟩=some (.int .u32 (z.c.over:Nat))/\W.cell? ⟨gc,o+j*5+4,none⟩=some (.int .u32 (z.c.kid:Nat))) (HKS.out _ hb0.drew) (fun hHeld hTl=>?_);refine ae 0 hTl hHeld (fun hTl=>?_)
    try simp only [pT]
    refine ae 1 hTl hHeld (fun hTl=>?_)
    try simp only [pT]
    refine ae 2 hTl hHeld (fun hTl=>?_)
    try simp only [pT]
    refine ae 3 hTl hHeld (fun hTl=>?_)
    try simp only [pT]
    refine ae 4 hTl hHeld (fun hTl=>?_)
    try simp only [pT]
    refine ae 5 hTl hHeld (fun hTl=>?_)
    try simp only [pT]
    refine ae 6 hTl hHeld (fun hTl=>?_)
    try simp only [pT]
    refine ae 7 hTl hHeld (fun hTl=>?_)
    try simp only [pT]
    refine ae 8 hTl hHeld (fun hTl=>?_)
    try simp only [pT]
    refine ae 9 hTl hHeld (fun hTl=>?_)
    try simp only [pT]
    clear hTl;refine aA 10 (fun K hK=>?_);go_simp;refine hK.out _ _ (fun _=>HKS.out _ (hb0.drew.alloc hb0.size _)) ?_;clear hK K
    try simp only [pT]
    have hL5:aa (W0.drew.alloc (.cells #[.slice none 0 0,.int .i64 0,.slice none 0 0,.int .u32 0,.int .u32 0] 117)) W0.heap.size 117 #[.slice none 0 0,.int .i64 0,.slice none 0 0,.int .u32 0,.int .u32 0]:=aa.new _ _ _;refine aA 11 (fun K hK=>?_);refine au rfl 117 (.tmp 6) (.tmp 66) rfl W0.heap.size _ rfl rfl 117 _ hL5 (by kernel_rfl) rfl (by simp [Value.oneCell']) ?_
    skip
    refine hK.out _ _ (fun h=>absurd h (by decide)) ?_;clear hK K
    try simp only [pT]
    refine cW ?_ _;have hX5:aa ((W0.alloc (.cells #[.slice none 0 0,.int .i64 0,.slice none 0 0,.int .u32 0,.int .u32 0] 117)).drew.setRow W0.heap.size #[.slice z.ka z.c.key.length z.kc,.int .i64 z.c.size,.slice z.va z.c.val.length z.vc,.int .u32 (z.c.over:Nat),.int .u32 (z.c.kid:Nat)]) W0.heap.size 117 #[.slice z.ka z.c.key.length z.kc,.int .i64 z.c.size,.slice z.va z.c.val.length z.vc,.int .u32 (z.c.over:Nat),.int .u32 (z.c.kid:Nat)]:=setRow_heap _ _ _ _ _ _ hL5;have hb5:Below wo.heap.size wo ((W0.alloc (.cells #[.slice none 0 0,.int .i64 0,.slice none 0 0,.int .u32 0,.int .u32 0] 117)).drew.setRow W0.heap.size #[.slice z.ka z.c.key.length z.kc,.int .i64 z.c.size,.slice z.va z.c.val.length z.vc,.int .u32 (z.c.over:Nat),.int .u32 (z.c.kid:Nat)]):=((hb0.alloc hb0.size _).drew).trans ((fS _ W0.heap.size _).below (B:=wo.heap.size) (by rw [show (W0.alloc (.cells #[.slice none 0 0,.int .i64 0,.slice none 0 0,.int .u32 0,.int .u32 0] 117)).drew.heap.size=W0.heap.size+1 from World.size_alloc _ _];have:=hb0.size;omega) (fun k hk=>by have hk:k=W0.heap.size:=hk;have:=hb0.size;omega))
    obtain ⟨W5,hW5⟩:∃ W5,((W0.alloc (.cells #[.slice none 0 0,.int .i64 0,.slice none 0 0,.int .u32 0,.int .u32 0] 117)).drew.setRow W0.heap.size #[.slice z.ka z.c.key.length z.kc,.int .i64 z.c.size,.slice z.va z.c.val.length z.vc,.int .u32 (z.c.over:Nat),.int .u32 (z.c.kid:Nat)])=W5:=⟨_,rfl⟩
    obtain ⟨b,hb⟩:∃ b,W0.heap.size=b:=⟨_,rfl⟩
    have hbo:wo.heap.size<=b:=by rw [<-hb];exact hb0.size
    rw [hW5] at hX5 hb5 ⊢;rw [hb] at hX5 ⊢;obtain ⟨hE,hR,hAR,hF⟩:=HI.out;have hC5:=hE.cur.below hb5;have r0:W5.cell? ⟨g,K*3,none⟩=some (.bool x.leaf):=(hb5.cell (p:=⟨g,K*3,none⟩) HG.out).trans e0;have r2:W5.cell? ⟨g,K*3+2,none⟩=some (.int .i64 (j:Nat)):=(HKS.out _ hb5).2.1
    have r2f:W5.frozen? ⟨g,K*3+2,none⟩=false:=by
     obtain ⟨g1,hg1,_,_,_,f5⟩:=eF hC5.rows.row (cg (l:=l0) (s:=x) (j:=2) (u:=.int .i64 x.next) rfl)
     cases hg1
     rw [HK.out] at f5;exact f5
    have hC6:=hC5.bump rfl n2 (by have:=HN2.out;omega) (by have:=HN2.out;have:=HJ.out.2;omega) (by
     have h1:=HN2.out;have h2:=HJ.out.2;refine ⟨fun h9=>?_,fun h9=>?_⟩
     ·show 0<=n2;omega
     ·exact absurd h9 (by decide))
    rw [HK.out] at hC6;have hF6:Fr (RW p (some ⟨g,0,none⟩)) wo (W5.setCell ⟨g,K*3+2,none⟩ (.int .i64 n2)):=(Fr.of_below hb5).trans (aT (.inr ⟨_,rfl,rfl⟩));have hE6:=hE.next hF6 hC6
    have hbg:b≠g:=by have:=HG.out;omega
    have hX6:aa (W5.setCell ⟨g,K*3+2,none⟩ (.int .i64 n2)) b 117 #[.slice z.ka z.c.key.length z.kc,.int .i64 z.c.size,.slice z.va z.c.val.length z.vc,.int .u32 (z.c.over:Nat),.int .u32 (z.c.kid:Nat)]:=hX5.far (by show b≠g;exact hbg) _
    have r6:(W5.setCell ⟨g,K*3+2,none⟩ (.int .i64 n2)).cell? ⟨g,K*3,none⟩=some (.bool x.leaf):=by
     obtain ⟨g1,hg1,_,_,f5,_⟩:=eF hC6.rows.row (cg (l:=l0) (s:={x with next:=n2}) (j:=0) (u:=.bool x.leaf) rfl)
     cases hg1
     rw [HK.out] at f5;exact f5
    have hCO:=HX.out.1.cells;have hzk:=ax (hCO.at_.key z (mG HZ.out.1)) hF6 (fun h0 ad e hh=>hCO.ka z (mG HZ.out.1) h0 ad e (WZ.of_rw hh));have hzv:=ax (hCO.at_.val z (mG HZ.out.1)) hF6 (fun h0 ad e hh=>hCO.va z (mG HZ.out.1) h0 ad e (WZ.of_rw hh))
    have hR6:R=if x.leaf=true then (match eD t (s1.step {x.sl with next:=n2}) z.c with
     | .error e=>.error e
     | .ok r=>.ok (some r.1,r.2)) else (match bk t 21 (s1.step {x.sl with next:=n2}) z.c.kid [] with
     | .error e=>.error e
     | .ok c2=>iI t f c2):=by
     rw [hR]
     conv=>lhs;unfold iI
     rw [HLA.out];have h7:x.sl.next=(j:Int):=HJ.out.1
     have h8:x.sl.l[x.sl.next.toNat]?=some z.c:=by
      rw [h7,j3];show (x.l.map CX.c)[j]?=_;rw [List.getElem?_map,HZ.out.1];rfl
     simp only
     skip
     rw [h8];simp only;rw [h7,HN2.out];rfl
    have HS:=lH (aI hE6 (aI hX6 (aI hzk (aI hzv (aI hR6 (aI hAR (hF.rw hAR hF6)))))));have hkN:=hCO.ka z (mG HZ.out.1);have hvN:=hCO.va z (mG HZ.out.1);have hfit:=HX.out.1.fit z (mG HZ.out.1);have HN:=lH (aI hkN (aI hvN hfit));clear hE hR hAR hF hC5 hC6 hF6 hE6 hX6 hX5 hCO hzk hzv hR6 hW5 hb hkN hvN hfit hL5
    obtain ⟨lf,hlf⟩:∃ lf,x.leaf=lf:=⟨_,rfl⟩
    rw [hlf] at r0 r6 HS;have HLF:=lH hlf;clear hlf
    cases lf with
    | true =>
     go_wp2_with fail
     obtain ⟨W6,hW6⟩:∃ W6,W5.setCell ⟨g,K*3+2,none⟩ (.int .i64 n2)=W6:=⟨_,rfl⟩
     rw [hW6] at HS r6 ⊢
     have kX:∀ W,aa W b 117 #[.slice z.ka z.c.key.length z.kc,.int .i64 z.c.size,.slice z.va z.c.val.length z.vc,.int .u32 (z.c.over:Nat),.int .u32 (z.c.kid:Nat)]->(W.cell? ⟨b,0,none⟩=some (.slice z.ka z.c.key.length z.kc)/\W.cell? ⟨b,1,none⟩=some (.int .i64 z.c.size)/\W.cell? ⟨b,2,none⟩=some (.slice z.va z.c.val.length z.vc)/\W.cell? ⟨b,3,none⟩=some (.int .u32 (z.c.over:Nat))/\W.cell? ⟨b,4,none⟩=some (.int .u32 (z.c.kid:Nat))):=fun W h9=>⟨h9.cell 0,h9.cell 1,h9.cell 2,h9.cell 3,h9.cell 4⟩
     have hbr:¬ RW p (some ⟨g,0,none⟩) b:=fun e=>by
      rcases e with e | ⟨ad,e1,e2⟩
      ·omega
      ·cases e1
       exact hbg e2.symm
     obtain ⟨R2,HR2⟩:∃ R2,Hid (eD t (s1.step {x.sl with next:=n2}) z.c=R2):=⟨_,lH rfl⟩
     have hEN:Hid (∀ W,Below W6.heap.size W6 W->Calls Tryz.prog 49 #[.pointer (some ⟨p,0,none⟩),z.val,.int .i64 1] W fun e w'=>_):=lH fun W hW=>(yC (w:=W) (HS.out.1.next (Fr.of_below hW) (HS.out.1.cur.below hW)) z (rM (HS.out.2.2.1.below hW) hW.size) HN.out.1 (rM (HS.out.2.2.2.1.below hW) hW.size) HN.out.2.1 HN.out.2.2).mono fun e w' h=>h.one;rw [HR2.out] at hEN;unfold CX.val cellV at hEN;have hs6:w1.heap.size<=W6.heap.size:=HS.out.2.2.2.2.2.2.size;have h0:=bR W6.heap.size W6;clear hW6;refine bB 10 (fun W=>W.cell? ⟨b,0,none⟩=some (.slice z.ka z.c.key.length z.kc)/\W.cell? ⟨b,1,none⟩=some (.int .i64 z.c.size)/\W.cell? ⟨b,2,none⟩=some (.slice z.va z.c.val.length z.vc)/\W.cell? ⟨b,3,none⟩=some (.int .u32 (z.c.over:Nat))/\W.cell? ⟨b,4,none⟩=some (.int .u32 (z.c.kid:Nat))) (kX _ HS.out.2.1.drew) (fun hHeld hTl=>?_);refine ae 0 hTl hHeld (fun hTl=>?_)
     try simp only [pT]
     refine ae 1 hTl hHeld (fun hTl=>?_)
     try simp only [pT]
     refine ae 2 hTl hHeld (fun hTl=>?_)
     try simp only [pT]
     refine ae 3 hTl hHeld (fun hTl=>?_)
     try simp only [pT]
     refine gi 4 8 rfl rfl (by kernel_rfl) (fun K1 hK1=>?_) (fun K1 hK1=>?_);have hTl:=hTl.step 4 (by kernel_rfl) (by decide);refine sC rfl 49 _ (by go_simp) (hEN.out _ h0.drew) ?_;rintro e W7 ⟨a1,m1,k1,a2,m2,k2,v,vb,rfl,hv,hF7,hP7⟩;refine ⟨_,rfl,?_⟩;have hX7:=HS.out.2.1.drew.fr hF7 hbr;refine hK1.out _ _ (fun _=>kX _ hX7) ?_;clear hK1 K1
     try simp only [pT]
     have hHeld:=kX _ hX7;refine ae 5 hTl hHeld (fun hTl=>?_)
     try simp only [pT]
     refine ae 6 hTl hHeld (fun hTl=>?_)
     try simp only [pT]
     refine ae 7 hTl hHeld (fun hTl=>?_)
     try simp only [pT]
     clear hTl;refine aA 8 (fun K hK=>?_);go_simp;refine hK.out _ _ (fun _=>kX _ (hX7.alloc _)) ?_;clear hK K
     try simp only [pT]
     have hL8:aa (W7.alloc (.cells #[.slice none 0 0,.slice none 0 0] 41)) W7.heap.size 41 #[.slice none 0 0,.slice none 0 0]:=aa.new _ _ _;have h67:W6.heap.size<=W7.heap.size:=hF7.size;have hb7:b<W7.heap.size:=hX7.lt;refine aA 9 (fun K hK=>?_);refine au rfl 41 (.tmp 7) (.tmp 84) rfl W7.heap.size _ rfl rfl 41 _ hL8 (by kernel_rfl) rfl (by simp [Value.oneCell']) ?_
     skip
     refine hK.out _ _ (fun _=>kX _ ((hX7.alloc _).fr (fS _ _ _) (fun e=>by have e:b=W7.heap.size:=e;omega))) ?_;clear hK K
     try simp only [pT]
     refine az 10 (fun K hK=>?_);go_simp;refine hK.out _ _ ?_;clear hK K
     try simp only [pT]
     refine cW ?_ _;have hPx:iM Z 75 B p T W6.heap.size (some ⟨g,0,none⟩) c1 _ R2 a1 m1 k1 a2 m2 k2 v vb ((W7.alloc (.cells #[.slice none 0 0,.slice none 0 0] 41)).setRow W7.heap.size #[.slice a1 m1 k1,.slice a2 m2 k2]):=iM.below hP7 (((bR _ W7).alloc (nR _) _).trans ((fS _ W7.heap.size _).below (B:=W7.heap.size) (by simp) (fun k e=>by have e:k=W7.heap.size:=e;omega)));have hFx:Fr (RW p (some ⟨g,0,none⟩)) W6 ((W7.alloc (.cells #[.slice none 0 0,.slice none 0 0] 41)).setRow W7.heap.size #[.slice a1 m1 k1,.slice a2 m2 k2]):=((Fr.refl _ W6).drew.trans (hF7.alloc _)).late (fS _ W7.heap.size _) (fun k hk e=>by have e:k=W7.heap.size:=e;omega);have hLx:aa ((W7.alloc (.cells #[.slice none 0 0,.slice none 0 0] 41)).setRow W7.heap.size #[.slice a1 m1 k1,.slice a2 m2 k2]) W7.heap.size 41 #[.slice a1 m1 k1,.slice a2 m2 k2]:=setRow_heap _ _ _ _ _ _ hL8
     obtain ⟨W8,hW8⟩:∃ W8,(W7.alloc (.cells #[.slice none 0 0,.slice none 0 0] 41)).setRow W7.heap.size #[.slice a1 m1 k1,.slice a2 m2 k2]=W8:=⟨_,rfl⟩
     rw [hW8] at hPx hFx hLx ⊢
     obtain ⟨e8,he8⟩:∃ e8,W7.heap.size=e8:=⟨_,rfl⟩
     rw [he8] at hLx h67 ⊢;clear hW8 hL8 hX7 hF7 hP7 hHeld;rotate_left;have hTl2:=hTl.step 8 (by kernel_rfl) (by decide);clear hTl;go_simp;refine hK1.out _ _ (fun _=>kX _ (HS.out.2.1.drew.alloc _)) ?_;clear hK1 K1
     try simp only [pT]
     have hTl:=hTl2;clear hTl2;have hL8:aa (W6.drew.alloc (.cells #[.slice none 0 0,.slice none 0 0] 41)) W6.heap.size 41 #[.slice none 0 0,.slice none 0 0]:=aa.new _ _ _;have hba:Below W6.heap.size W6 (W6.drew.alloc (.cells #[.slice none 0 0,.slice none 0 0] 41)):=h0.drew.alloc (nR _) _;have hXa:=HS.out.2.1.below hba HS.out.2.1.lt;have hsa:(W6.drew.alloc (.cells #[.slice none 0 0,.slice none 0 0] 41)).heap.size=W6.heap.size+1:=World.size_alloc _ _
     have hgr:¬ RW p (some ⟨g,0,none⟩) W6.heap.size:=fun e=>by
      have h8:=HS.out.1.cur.blk.lt
      rcases e with e | ⟨ad,e1,e2⟩
      ·omega
      ·have:=(HS.out.1.cur.rows.lo_row ad e1).2;omega
     have hTl2:=hTl.step 4 (by kernel_rfl) (by decide);clear hTl;refine sP 4 (hEN.out _ hba) ?_
     rintro e W7 ⟨a1,m1,k1,a2,m2,k2,v,vb,rfl,hv,hF7,hP7⟩;have hX7:=hXa.fr hF7 hbr
     refine ⟨_,rfl,(fun _=>kX _ hX7),?_⟩
     try simp only [pT]
     have hTl:=hTl2;clear hTl2;have hHeld:=kX _ hX7;refine ae 5 hTl hHeld (fun hTl=>?_)
     try simp only [pT]
     refine ae 6 hTl hHeld (fun hTl=>?_)
     try simp only [pT]
     refine ae 7 hTl hHeld (fun hTl=>?_)
     try simp only [pT]
     clear hTl;have hL7:aa W7 W6.heap.size 41 #[.slice none 0 0,.slice none 0 0]:=hL8.fr hF7 hgr;have h67:W6.heap.size<=W6.heap.size:=nR _;refine aA 9 (fun K hK=>?_);refine au rfl 41 (.tmp 7) (.tmp 84) rfl W6.heap.size _ rfl rfl 41 _ hL7 (by kernel_rfl) rfl (by simp [Value.oneCell']) ?_
     skip
     refine hK.out _ _ (fun _=>kX _ (hX7.fr (fS _ _ _) (fun e=>by have e:b=W6.heap.size:=e;have:=HS.out.2.1.lt;omega))) ?_;clear hK K
     try simp only [pT]
     refine az 10 (fun K hK=>?_);go_simp;refine hK.out _ _ ?_;clear hK K
     try simp only [pT]
     refine cW ?_ _;have hPx:iM Z 75 B p T W6.heap.size (some ⟨g,0,none⟩) c1 _ R2 a1 m1 k1 a2 m2 k2 v vb (W7.setRow W6.heap.size #[.slice a1 m1 k1,.slice a2 m2 k2]):=(hP7.slices hL7 bU (fS _ _ _) hgr (by show W6.heap.size<(W6.drew.alloc (.cells #[.slice none 0 0,.slice none 0 0] 41)).heap.size;rw [hsa];omega)).lo (by show W6.heap.size<=(W6.drew.alloc (.cells #[.slice none 0 0,.slice none 0 0] 41)).heap.size;rw [hsa];omega);have hFx:Fr (RW p (some ⟨g,0,none⟩)) W6 (W7.setRow W6.heap.size #[.slice a1 m1 k1,.slice a2 m2 k2]):=((Fr.of_below hba).trans hF7).late (fS _ W6.heap.size _) (fun k hk e=>by have e:k=W6.heap.size:=e;omega);have hLx:aa (W7.setRow W6.heap.size #[.slice a1 m1 k1,.slice a2 m2 k2]) W6.heap.size 41 #[.slice a1 m1 k1,.slice a2 m2 k2]:=setRow_heap _ _ _ _ _ _ hL7
     obtain ⟨W8,hW8⟩:∃ W8,W7.setRow W6.heap.size #[.slice a1 m1 k1,.slice a2 m2 k2]=W8:=⟨_,rfl⟩
     rw [hW8] at hPx hFx hLx ⊢
     obtain ⟨e8,he8⟩:∃ e8,W6.heap.size=e8:=⟨_,rfl⟩
     have h67:W6.heap.size<=e8:=by omega
     rw [he8] at hLx ⊢;clear hW8 hL8 hL7 hX7 hF7 hP7 hHeld hba hXa hsa hgr
     all_goals (
      have hres6:=HH.out.2.2.1.fr HS.out.2.2.2.2.2.2 (fun e=>by
       rcases e with e | ⟨ad,e1,e2⟩
       ·omega
       ·have:=hAl ad e1;omega)
      have hrn:¬ RW p (some ⟨g,0,none⟩) w.heap.size:=fun e=>by
       rcases e with e | ⟨ad,e1,e2⟩
       ·omega
       ·rcases HS.out.2.2.2.2.2.1 ad e1 with ⟨a,e3,e4⟩ | h9
        ·have:=hAl a e3;omega
        ·omega
      have hres8:=hres6.fr hFx hrn;have s0:W8.drew.cell? ⟨e8,0,none⟩=some (.slice a1 m1 k1):=hLx.cell 0;have s1x:W8.drew.cell? ⟨e8,1,none⟩=some (.slice a2 m2 k2):=hLx.cell 1
      have hn8:w.heap.size≠e8:=by omega
      go_wp2_with fail
      rcases hv with ⟨rfl,rfl⟩ | ⟨⟨tv,pe,rfl⟩,rfl⟩
      all_goals (
       have hL9x:aa (W8.drew.setRow w.heap.size #[.slice a1 m1 k1,.slice a2 m2 k2]) e8 41 #[.slice a1 m1 k1,.slice a2 m2 k2]:=(hLx.drew).fr (fS _ _ _) (fun e=>hn8 e.symm);refine bB 6 (fun W=>W.cell? ⟨e8,0,none⟩=some (.slice a1 m1 k1)/\W.cell? ⟨e8,1,none⟩=some (.slice a2 m2 k2)) (⟨s0,s1x⟩) (fun hHeld hTl=>?_);refine ae 0 hTl hHeld (fun hTl=>?_)
       try simp only [pT]
       refine ae 1 hTl hHeld (fun hTl=>?_)
       try simp only [pT]
       refine ae 2 hTl hHeld (fun hTl=>?_)
       try simp only [pT]
       refine ae 3 hTl hHeld (fun hTl=>?_)
       try simp only [pT]
       clear hTl;refine aA 4 (fun K hK=>?_);refine au rfl 41 (.tmp 2) (.tmp 86) rfl w.heap.size _ rfl rfl 41 _ hres8.drew (by kernel_rfl) rfl (by simp [Value.oneCell']) ?_
       skip
       refine hK.out _ _ (fun _=>⟨hL9x.cell 0,hL9x.cell 1⟩) ?_;clear hK K
       try simp only [pT]
       refine aA 5 (fun K hK=>?_);go_simp;refine hK.out _ _ (fun _=>⟨hL9x.cell 0,hL9x.cell 1⟩) ?_;clear hK K
       try simp only [pT]
       refine az 6 (fun K hK=>?_);go_simp;refine hK.out _ _ ?_;clear hK K
       try simp only [pT]
       refine cW ?_ _
       go_wp2_with fail
       refine bodyPost_ret (aG rfl _ _ w.heap.size 41 _ (0,0) _ rfl (setRow_heap _ _ _ _ _ _ hres8.drew) Tryz.underlying41 rfl (by kernel_rfl)) rfl ?_;have hP9:=(hPx.below ((bR _ _).drew)).slices hres8.drew bU (fS _ w.heap.size #[.slice a1 m1 k1,.slice a2 m2 k2]) hrn (by omega);have hF9:∀ cs,Fr (RW p A) w (W8.drew.setRow w.heap.size cs):=fun cs=>((Fr.of_below HH.out.2.2.2).trans (HS.out.2.2.2.2.2.2.rw HS.out.2.2.2.2.2.1 hFx)).drew.late (fS _ w.heap.size _) (fun k hk e=>by have e:k=w.heap.size:=e;omega);have hAR9:AR w.heap.size A (some ⟨g,0,none⟩):=fun a e=>(HS.out.2.2.2.2.2.1 a e).imp id (fun h=>by omega)
       have hR9:R=(match (generalizing:=false) R2 with
        | .error e=>.error e
        | .ok r=>.ok (some r.1,r.2)):=by
        rw [HS.out.2.2.2.2.1]
        first
         | rw [if_pos rfl,HR2.out]
         | rw [if_pos trivial,HR2.out]
       have hlo9:w.heap.size<=W6.heap.size:=by omega
       clear HR2
       cases R2 with
       | error k9 =>
        obtain ⟨rfl,rfl,rfl,rfl,rfl,rfl,hb9,hk9,hv9,cs9,hc9,hc6⟩:=hP9
        first
         | exact absurd hb9 (by decide)
         | (rw [hR9];exact ⟨⟨_,cs9,rfl,hk9,hv9.lo hlo9,hc9,hc6⟩,hF9 _⟩)
       | ok r9 =>
        obtain ⟨⟨key,val⟩,s7⟩:=r9;obtain ⟨hb9,rfl,rfl,hC9,hl9,hr9,hn9⟩:=hP9
        first
         | exact absurd hb9 (by decide)
         | (rw [hR9];exact ⟨⟨a1,k1,a2,k2,rfl,hl9,hr9,some ⟨g,0,none⟩,c1,_,hC9,hAR9,hn9⟩,hF9 _⟩)))
    | false =>
     have r64:(W5.setCell ⟨g,K*3+2,none⟩ (.int .i64 n2)).cell? ⟨b,4,none⟩=some (.int .u32 (z.c.kid:Nat)):=HS.out.2.1.cell 4;have hEn:=qO HS.out.1 z.c.kid HN.out.2.2.2 (tA:=none) 0 (key:=[]) ⟨rfl,fun h9=>absurd h9 (by decide)⟩ (fun _ ad e9=>by cases e9) (by decide);have hEn:Calls Tryz.prog 28 #[.pointer (some ⟨p,0,none⟩),.int .u32 (z.c.kid:Nat),.slice none 0 0] (W5.setCell ⟨g,K*3+2,none⟩ (.int .i64 n2)) fun e w'=>_:=hEn
     have hres6:=HH.out.2.2.1.fr HS.out.2.2.2.2.2.2 (fun e=>by
      rcases e with e | ⟨ad,e1,e2⟩
      ·omega
      ·have:=hAl ad e1;omega)
     have hrn:¬ RW p (some ⟨g,0,none⟩) w.heap.size:=fun e=>by
      rcases e with e | ⟨ad,e1,e2⟩
      ·omega
      ·rcases HS.out.2.2.2.2.2.1 ad e1 with ⟨a,e3,e4⟩ | h9
       ·have:=hAl a e3;omega
       ·omega
     have hs6:w1.heap.size<=(W5.setCell ⟨g,K*3+2,none⟩ (.int .i64 n2)).heap.size:=HS.out.2.2.2.2.2.2.size
     have hR7:R=(match (generalizing:=false) bk t 21 (s1.step {x.sl with next:=n2}) z.c.kid [] with
      | .error e=>.error e
      | .ok c2=>iI t f c2):=by
      rw [HS.out.2.2.2.2.1]
      first
       | rw [if_neg (by decide)]
       | rw [if_neg (fun h=>h)]
     obtain ⟨R3,HR3⟩:∃ R3,Hid (bk t 21 (s1.step {x.sl with next:=n2}) z.c.kid []=R3):=⟨_,lH rfl⟩
     rw [HR3.out] at hR7 hEn;have HR7:=lH hR7;clear hR7
     cases R3 with
     | error k9 =>
      go_wp2_with (first
       | (
        go_at_call 28;refine hEn.mono ?_;rintro e W7 ⟨⟨v,cs7,rfl,hk9,hv9,hc7,hc6⟩,hF7⟩
        have hvv:∃ tv pe,v=.iface tv pe:=(by rcases hv9 with ⟨h9,_⟩ | ⟨_,e9⟩ | ⟨_,r,op,nm,e9,_⟩;exact absurd h9 hk9;exact ⟨_,_,e9⟩;exact ⟨_,_,e9⟩)
        obtain ⟨tv,pe,rfl⟩:=hvv
        have hres7:=hres6.fr hF7 hrn)
       | (refine wpList_store_row rfl 41 _ _ rfl w.heap.size _ rfl rfl 41 _ hres7 (by kernel_rfl) rfl (by simp [Value.oneCell']) ?_))
      refine bodyPost_ret (aG rfl _ _ w.heap.size 41 _ (0,0) _ rfl (setRow_heap _ _ _ _ _ _ hres7) Tryz.underlying41 rfl (by kernel_rfl)) rfl ?_;have hF9:∀ cs,Fr (RW p A) w (W7.setRow w.heap.size cs):=fun cs=>((Fr.of_below HH.out.2.2.2).trans (HS.out.2.2.2.2.2.2.rw HS.out.2.2.2.2.2.1 hF7)).late (fS _ w.heap.size _) (fun k hk e=>by have e:k=w.heap.size:=e;omega);rw [HR7.out];exact ⟨⟨_,cs7,rfl,hk9,(hv9.fr (fS _ w.heap.size _) (fun r hr _ e=>by have e:r=w.heap.size:=e;omega)).lo (by omega),hc7.fr (fS _ _ _) (fun e=>by have e:p=w.heap.size:=e;omega),hc6⟩,hF9 _⟩
     | ok s7 =>
      go_wp2_with (first
       | (go_at_call 28;refine hEn.mono ?_;rintro e W7 ⟨⟨rfl,A7,c7,l7,hC7,hAR7⟩,hF7⟩))
      have hpg:=mz HR3.out;have hpg:s1.pages<s7.pages:=hpg;have k1:=hC7.blk.cell 1;have k4:=hC7.blk.cell 4
      have hmu7:mu s7<f:=by
       have h1:=HWL.out;have h2:=hC7.len;have h3:=hC7.few;have h4:=hC7.pg;unfold mu at *;omega
      have h9:=HWL.out;have h2:=hC7.len;have h3:=hC7.few;have h4:=hC7.pg
      go_roundw
      case rel=>exact ⟨l7,A7,c7,f,s7,HS.out.1.next hF7 hC7,HR7.out,hmu7,HS.out.2.2.2.2.2.1.trans hAR7 hs6,HS.out.2.2.2.2.2.2.rw HS.out.2.2.2.2.2.1 hF7⟩
      case measure =>
       rw [hm1,hm4,k1,k4];show (513-((s7.pages:Nat):Int).toNat)*25+l7.length<(513-((s1.pages:Nat):Int).toNat)*25+(K+1);omega
theorem mA {t:PT} {lo:Key} {c':SW}:∀ {f n:Nat} {c:SW},bm t f c n lo=.ok c'->c.pages<c'.pages
 | 0,n,c,h=>by cases h
 | f+1,n,c,h=>by
  unfold bm at h
  split at h
  ·cases h
  ·split at h
   ·cases h
    show c.pages<c.pages+1;omega
   ·exact Nat.lt_trans (Nat.lt_succ_self _) (mA h)
theorem DK {Z:Nat->Prop} {B p T M:Nat} {X:Nat->Prop} {w:World} {t:PT} {A:Option Addr} {cc:Nat} {kA:Option Addr} {kc:Nat} {l:List LX} {s:SW} (h:aR Z 81 B p T M X w t A cc kA kc l s) (hmu:mu s<110000) :
 Calls Tryz.prog 32 #[.pointer (some ⟨p,0,none⟩)] w fun e w'=>Fg Z 81 B p T w A kA kc (iK t 110000 s) e w':=by
 obtain ⟨w1,hw1⟩:∃ w1,w1=w.alloc (.cells #[.slice none 0 0,.slice none 0 0] 41):=⟨_,rfl⟩
 have hb1:Below w.heap.size w w1:=by rw [hw1];exact (bR _ w).alloc (nR _) _
 have hE1:aa w1 w.heap.size 41 #[.slice none 0 0,.slice none 0 0]:=by rw [hw1];exact aa.new _ _ _
 have hA1:=h.next (Fr.of_below hb1) (h.cur.below hb1);have hpl:=h.cur.blk.lt;have hAl:∀ ad,A=some ad->ad.block<w.heap.size:=fun ad e=>(h.cur.rows.lo_row ad e).2;have hs1:w.heap.size<w1.heap.size:=hE1.lt;have HH:=lH (aI h (aI hA1 (aI hE1 hb1)));have HW1:=lH hw1
 obtain ⟨R,HR⟩:∃ R,Hid (iK t 110000 s=R):=⟨_,lH rfl⟩
 rw [HR.out];clear h hA1 hE1 hw1 hb1;go_enter Tryz.func32,Tryz.ntmps32
 go_wp2_with fail
 rw [<-HW1.out]
 go_loopw [5] (fun _ wr=>∃ (l1:List LX) (A1:Option Addr) (c1 f:Nat) (s1:SW),aR Z 81 B p T M X wr t A1 c1 kA kc l1 s1/\R=iK t f s1/\mu s1<f/\AR w1.heap.size A A1/\Fr (RW p A) w1 wr) (fun _ wr=>match wr.cell? ⟨p,1,none⟩,wr.cell? ⟨p,4,none⟩ with
  | some (.slice _ n _),some (.int _ g)=>(513-g.toNat)*25+n
  | _,_=>0)
 case atStart=>exact ⟨l,A,cc,110000,s,HH.out.2.1,HR.out.symm,hmu,AR.refl _ _,Fr.refl _ _⟩
 case round =>
  obtain ⟨l1,A1,c1,f,s1,hE,hR,hf,hAR,hF⟩:=hrel
  obtain ⟨wo,rfl⟩:∃ wo,wo=wr:=⟨wr,rfl⟩
  obtain ⟨f,rfl⟩:∃ f',f=f'+1:=⟨f-1,by omega⟩
  have hres:aa wo w.heap.size 41 #[.slice none 0 0,.slice none 0 0]:=HH.out.2.2.1.fr hF (fun e=>by
   rcases e with e | ⟨ad,e1,e2⟩
   ·omega
   ·have:=hAl ad e1;omega)
  have hm1:wo.cell? ⟨p,1,none⟩=some (.slice A1 l1.length c1):=hE.cur.blk.cell 1;have hm4:wo.cell? ⟨p,4,none⟩=some (.int .i64 (s1.pages:Nat)):=hE.cur.blk.cell 4;have hpo:=hE.cur.blk.lt;have hfew:=hE.cur.few;have HI:=lH (aI hE (aI hR (aI hAR hF)))
  rcases List.eq_nil_or_concat l1 with rfl | ⟨l0,x,hl1⟩
  ·clear hE hR hAR hF;have hm1:wo.cell? ⟨p,1,none⟩=some (.slice A1 0 c1):=hm1
   go_wp2_with (refine wpList_store_row rfl 41 _ _ rfl w.heap.size _ rfl rfl 41 _ hres (by kernel_rfl) rfl (by simp [Value.oneCell']) ?_)
   refine bodyPost_ret (aG rfl _ _ w.heap.size 41 _ (0,0) _ rfl (setRow_heap _ _ _ _ _ _ hres) Tryz.underlying41 rfl (by kernel_rfl)) rfl ?_;obtain ⟨hE,hR,hAR,hF⟩:=HI.out;have hw0:s1.way=[]:=hE.cur.way.symm
   have hR9:R=.ok (none,s1):=by
    rw [hR];unfold iK;rw [hw0];rfl
   rw [hR9];have hF9:∀ cs,Fr (RW p A) w (wo.setRow w.heap.size cs):=fun cs=>((Fr.of_below HH.out.2.2.2).trans hF).late (fS _ w.heap.size _) (fun k hk e=>by have e:k=w.heap.size:=e;omega);have hAR9:AR w.heap.size A A1:=fun a e=>(hAR a e).imp id (fun h=>by omega)
   exact ⟨⟨rfl,A1,c1,[],hE.cur.slices hres bU (fS _ _ _) (fun e=>by
    rcases e with e | ⟨ad,e1,e2⟩
    ·omega
    ·rcases hAR ad e1 with ⟨a,e3,e4⟩ | h9
     ·have:=hAl a e3;omega
     ·omega),hAR9⟩,hF9 _⟩
  ·rw [List.concat_eq_append] at hl1;subst hl1;obtain ⟨g,rfl,hBg,hgl,e0,_⟩:=eF hE.cur.rows.row (cg (l:=l0) (s:=x) (j:=0) (u:=.bool x.leaf) rfl);obtain ⟨g1,hg1,_,_,e1,_⟩:=eF hE.cur.rows.row (cg (l:=l0) (s:=x) (j:=1) (u:=.slice x.la x.l.length x.lc) rfl)
   cases hg1
   obtain ⟨g1,hg1,_,_,e2,f2⟩:=eF hE.cur.rows.row (cg (l:=l0) (s:=x) (j:=2) (u:=.int .i64 x.next) rfl)
   cases hg1
   obtain ⟨K,HK⟩:∃ K,Hid (l0.length=K):=⟨_,lH rfl⟩
   rw [lQ,List.length_singleton] at hm1 hfew;rw [HK.out] at e0 e1 e2 f2 hm1 hfew;have e0:wo.cell? ⟨g,K*3,none⟩=some (.bool x.leaf):=e0;have hLO:=hE.cur.rows.lv x (by simp);have hDI:=hE.cur.dir x (by simp);have hx1:=hLO.lo;have hx2:=hLO.hi;have hx3:=hLO.many
   have a1:IntKind.i64.wrap (K:Int)=(K:Int):=by rw [IntKind.wrap_i64];omega
   have a2:(0:Int)<=(K:Int):=by omega
   have a3:(K:Int)<(K:Int)+1:=by omega
   have a4:((K:Int)).toNat=K:=by omega
   have a5:(0:Int)<(K:Int)+1:=by omega
   have HX:=lH (aI hLO (aI hDI hBg));have HG:=lH hgl;clear hE hR hAR hF hLO hDI hBg;have a7:=zX HI.out.1.cur.rows.row;rw [lQ,List.length_singleton,HK.out] at a7
   have a6:(K:Int)<=(c1:Int):=by omega
   have hlast:s1.way.getLast?=some x.sl:=by rw [<-HI.out.1.cur.way];simp
   have HLA:=lH hlast
   have hwl:s1.way.length=K+1:=by rw [HI.out.1.cur.len,lQ,List.length_singleton,HK.out]
   have HWL:=lH hwl;clear hlast hwl;by_cases hpop:x.next<0
   ·have d1:decide (x.next<0)=true:=dT hpop
    go_wp2_with fail
    go_quiet (fail)
    revert nq
    intro n0
    go_wp2_with fail
    go_wp2_with fail
    obtain ⟨W0,hW0⟩:∃ W0,wo.drewN n0=W0:=⟨_,rfl⟩
    have hb0:Below wo.heap.size wo W0:=by rw [<-hW0];exact ⟨rfl,rfl,rfl,nR _,fun _ _=>rfl⟩
    rw [hW0];obtain ⟨hE,hR,hAR,hF⟩:=HI.out;have hC0:=hE.cur.below hb0;have q1:W0.cell? ⟨p,1,none⟩=some (.slice (some ⟨g,0,none⟩) (K+1) c1):=(hb0.cell (p:=⟨p,1,none⟩) hpo).trans hm1;have q1d:W0.drew.cell? ⟨p,1,none⟩=some (.slice (some ⟨g,0,none⟩) (K+1) c1):=q1;have q1f:W0.frozen? ⟨p,1,none⟩=false:=hC0.blk.frozen 1;have hC9:=hC0.pop.below ((bR _ _).drew);rw [HK.out] at hC9;have k1:=hC9.blk.cell 1;have k4:=hC9.blk.cell 4;rw [HK.out] at k1
    have hR2:R=iK t f s1.pop:=by
     rw [hR]
     conv=>lhs;unfold iK
     rw [HLA.out];simp only;rw [if_pos (show x.sl.next<0 from hpop)]
    have hmu2:mu s1.pop<f:=by
     unfold mu SW.pop at *;simp only [List.length_dropLast];have:=HWL.out;omega
    have hF2:Fr (RW p (some ⟨g,0,none⟩)) wo (W0.setCell ⟨p,1,none⟩ (.slice (some ⟨g,0,none⟩) K c1)).drew:=((Fr.of_below hb0).trans (aT (.inl rfl))).drew;have hE9:=hE.next hF2 hC9;have hF9:=hF.rw hAR hF2;have HFIN:=lH (aI hE9 (aI hR2 (aI hmu2 (aI hAR hF9))));clear hE hR hAR hF hC0 hC9 hR2 hmu2 hF2 hE9 hF9 hW0;refine bB 14 (fun W=>W.cell? ⟨p,1,none⟩=some (.slice (some ⟨g,0,none⟩) (K+1) c1)) (q1d) (fun hHeld hTl=>?_);refine ae 0 hTl hHeld (fun hTl=>?_)
    try simp only [pT]
    refine ae 1 hTl hHeld (fun hTl=>?_)
    try simp only [pT]
    refine ae 2 hTl hHeld (fun hTl=>?_)
    try simp only [pT]
    refine ae 3 hTl hHeld (fun hTl=>?_)
    try simp only [pT]
    refine ae 4 hTl hHeld (fun hTl=>?_)
    try simp only [pT]
    refine ae 5 hTl hHeld (fun hTl=>?_)
    try simp only [pT]
    refine ae 6 hTl hHeld (fun hTl=>?_)
    try simp only [pT]
    refine ae 7 hTl hHeld (fun hTl=>?_)
    try simp only [pT]
    refine ae 8 hTl hHeld (fun hTl=>?_)
    try simp only [pT]
    refine ae 9 hTl hHeld (fun hTl=>?_)
    try simp only [pT]
    refine ae 10 hTl hHeld (fun hTl=>?_)
    try simp only [pT]
    refine ae 11 hTl hHeld (fun hTl=>?_)
    try simp only [pT]
    refine ae 12 hTl hHeld (fun hTl=>?_)
    try simp only [pT]
    refine ae 13 hTl hHeld (fun hTl=>?_)
    try simp only [pT]
    clear hTl;refine az 14 (fun K hK=>?_);go_simp;refine hK.out _ _ ?_;clear hK K
    try simp only [pT]
    refine az 15 (fun K hK=>?_);go_simp;refine hK.out _ _ ?_;clear hK K
    try simp only [pT]
    refine az 16 (fun K hK=>?_);go_simp;refine hK.out _ _ ?_;clear hK K
    try simp only [pT]
    refine az 17 (fun K hK=>?_);go_simp;refine hK.out _ _ ?_;clear hK K
    try simp only [pT]
    refine cW ?_ _
    go_wp2_with fail
    go_roundw
    case rel=>exact ⟨l0,some ⟨g,0,none⟩,c1,f,s1.pop,HFIN.out.1,HFIN.out.2.1,HFIN.out.2.2.1,HFIN.out.2.2.2.1,HFIN.out.2.2.2.2⟩
    case measure =>
     rw [hm1,hm4,k1,k4];show (513-((s1.pages:Nat):Int).toNat)*25+K<(513-((s1.pages:Nat):Int).toNat)*25+(K+1);omega
   ·have d1:decide (x.next<0)=false:=dF hpop
    obtain ⟨j,HJ⟩:∃ j:Nat,Hid (x.next=(j:Int)/\j<x.l.length):=⟨x.next.toNat,lH (by have:=HX.out.2.1.2 rfl;omega)⟩
    obtain ⟨z,hz⟩:∃ z,x.l[j]?=some z:=⟨_,gE HJ.out.2⟩
    obtain ⟨gc,o,hla,hgc,hcc⟩:=HX.out.1.cells.at_.at_ (by have:=HJ.out.2;omega);obtain ⟨z0,z1,z2,z3,z4⟩:=hcc j z hz;have hj:=HJ.out;rw [hla] at e1;rw [hj.1] at e2 d1
    have j1:(0:Int)<=(j:Int):=by omega
    have j2:(j:Int)<(x.l.length:Int):=by omega
    have j3:((j:Int)).toNat=j:=by omega
    obtain ⟨n2,HN2⟩:∃ n2:Int,Hid ((j:Int)-1=n2):=⟨_,lH rfl⟩
    have e9:IntKind.i64.wrap ((j:Int)-1)=n2:=by rw [IntKind.wrap_i64];have:=HN2.out;omega
    have HZ:=lH (aI hz hla);clear hz hla hcc hj hpop
    go_wp2_with fail
    go_quiet (fail)
    revert nq
    intro n0
    go_wp2_with fail
    go_wp2_with fail
    obtain ⟨W0,hW0⟩:∃ W0,wo.drewN n0=W0:=⟨_,rfl⟩
    have hb0:Below wo.heap.size wo W0:=by rw [<-hW0];exact ⟨rfl,rfl,rfl,nR _,fun _ _=>rfl⟩
    rw [hW0];have hgl:=HG.out
    have kS:∀ W,Below wo.heap.size wo W->(W.cell? ⟨g,K*3+1,none⟩=some (.slice (some ⟨gc,o,none⟩) x.l.length x.lc)/\W.cell? ⟨g,K*3+2,none⟩=some (.int .i64 (j:Nat))/\W.cell? ⟨gc,o+j*5,none⟩=some (.slice z.ka z.c.key.length z.kc)/\W.cell? ⟨gc,o+j*5+1,none⟩=some (.int .i64 z.c.size)/\W.cell? ⟨gc,o+j*5+2,none⟩=some (.slice z.va z.c.val.length z.vc)/\W.cell? ⟨gc,o+j*5+3,none⟩=some (.int .u32 (z.c.over:Nat))/\W.cell? ⟨gc,o+j*5+4,none⟩=some (.int .u32 (z.c.kid:Nat))):=fun W hW=>⟨(hW.cell (p:=⟨g,K*3+1,none⟩) hgl).trans e1,(hW.cell (p:=⟨g,K*3+2,none⟩) hgl).trans e2,(hW.cell (p:=⟨gc,o+j*5,none⟩) hgc).trans z0,(hW.cell (p:=⟨gc,o+j*5+1,none⟩) hgc).trans z1,(hW.cell (p:=⟨gc,o+j*5+2,none⟩) hgc).trans z2,(hW.cell (p:=⟨gc,o+j*5+3,none⟩) hgc).trans z3,(hW.cell (p:=⟨gc,o+j*5+4,none⟩) hgc).trans z4⟩
    have HKS:=lH kS;clear kS hW0 hgl;refine bB 11 (fun W=>W.cell? ⟨g,K*3+1,none⟩=some (.slice (some ⟨gc,o,none⟩) x.l.length x.lc)/\W.cell? ⟨g,K*3+2,none⟩=some (.int .i64 (j:Nat))/\W.cell? ⟨gc,o+j*5,none⟩=some (.slice z.ka z.c.key.length z.kc)/\W.cell? ⟨gc,o+j*5+1,none⟩=some (.int .i64 z.c.size)/\W.cell? ⟨gc,o+j*5+2,none⟩=some (.slice z.va z.c.val.length z.vc)/\W.cell? ⟨gc,o+j*5+3,none⟩=some (.int .u32 (z.c.over:Nat))/\W.cell? ⟨gc,o+j*5+4,none⟩=some (.int .u32 (z.c.kid:Nat))) (HKS.out _ hb0.drew) (fun hHeld hTl=>?_);refine ae 0 hTl hHeld (fun hTl=>?_)
    try simp only [pT]
    refine ae 1 hTl hHeld (fun hTl=>?_)
    try simp only [pT]
    refine ae 2 hTl hHeld (fun hTl=>?_)
    try simp only [pT]
    refine ae 3 hTl hHeld (fun hTl=>?_)
    try simp only [pT]
    refine ae 4 hTl hHeld (fun hTl=>?_)
    try simp only [pT]
    refine ae 5 hTl hHeld (fun hTl=>?_)
    try simp only [pT]
    refine ae 6 hTl hHeld (fun hTl=>?_)
    try simp only [pT]
    refine ae 7 hTl hHeld (fun hTl=>?_)
    try simp only [pT]
    refine ae 8 hTl hHeld (fun hTl=>?_)
    try simp only [pT]
    refine ae 9 hTl hHeld (fun hTl=>?_)
    try simp only [pT]
    clear hTl;refine aA 10 (fun K hK=>?_);go_simp;refine hK.out _ _ (fun _=>HKS.out _ (hb0.drew.alloc hb0.size _)) ?_;clear hK K
    try simp only [pT]
    have hL5:aa (W0.drew.alloc (.cells #[.slice none 0 0,.int .i64 0,.slice none 0 0,.int .u32 0,.int .u32 0] 117)) W0.heap.size 117 #[.slice none 0 0,.int .i64 0,.slice none 0 0,.int .u32 0,.int .u32 0]:=aa.new _ _ _;refine aA 11 (fun K hK=>?_);refine au rfl 117 (.tmp 6) (.tmp 61) rfl W0.heap.size _ rfl rfl 117 _ hL5 (by kernel_rfl) rfl (by simp [Value.oneCell']) ?_
    skip
    refine hK.out _ _ (fun h=>absurd h (by decide)) ?_;clear hK K
    try simp only [pT]
    refine cW ?_ _;have hX5:aa ((W0.alloc (.cells #[.slice none 0 0,.int .i64 0,.slice none 0 0,.int .u32 0,.int .u32 0] 117)).drew.setRow W0.heap.size #[.slice z.ka z.c.key.length z.kc,.int .i64 z.c.size,.slice z.va z.c.val.length z.vc,.int .u32 (z.c.over:Nat),.int .u32 (z.c.kid:Nat)]) W0.heap.size 117 #[.slice z.ka z.c.key.length z.kc,.int .i64 z.c.size,.slice z.va z.c.val.length z.vc,.int .u32 (z.c.over:Nat),.int .u32 (z.c.kid:Nat)]:=setRow_heap _ _ _ _ _ _ hL5;have hb5:Below wo.heap.size wo ((W0.alloc (.cells #[.slice none 0 0,.int .i64 0,.slice none 0 0,.int .u32 0,.int .u32 0] 117)).drew.setRow W0.heap.size #[.slice z.ka z.c.key.length z.kc,.int .i64 z.c.size,.slice z.va z.c.val.length z.vc,.int .u32 (z.c.over:Nat),.int .u32 (z.c.kid:Nat)]):=((hb0.alloc hb0.size _).drew).trans ((fS _ W0.heap.size _).below (B:=wo.heap.size) (by rw [show (W0.alloc (.cells #[.slice none 0 0,.int .i64 0,.slice none 0 0,.int .u32 0,.int .u32 0] 117)).drew.heap.size=W0.heap.size+1 from World.size_alloc _ _];have:=hb0.size;omega) (fun k hk=>by have hk:k=W0.heap.size:=hk;have:=hb0.size;omega))
    obtain ⟨W5,hW5⟩:∃ W5,((W0.alloc (.cells #[.slice none 0 0,.int .i64 0,.slice none 0 0,.int .u32 0,.int .u32 0] 117)).drew.setRow W0.heap.size #[.slice z.ka z.c.key.length z.kc,.int .i64 z.c.size,.slice z.va z.c.val.length z.vc,.int .u32 (z.c.over:Nat),.int .u32 (z.c.kid:Nat)])=W5:=⟨_,rfl⟩
    obtain ⟨b,hb⟩:∃ b,W0.heap.size=b:=⟨_,rfl⟩
    have hbo:wo.heap.size<=b:=by rw [<-hb];exact hb0.size
    rw [hW5] at hX5 hb5 ⊢;rw [hb] at hX5 ⊢;obtain ⟨hE,hR,hAR,hF⟩:=HI.out;have hC5:=hE.cur.below hb5;have r0:W5.cell? ⟨g,K*3,none⟩=some (.bool x.leaf):=(hb5.cell (p:=⟨g,K*3,none⟩) HG.out).trans e0;have r2:W5.cell? ⟨g,K*3+2,none⟩=some (.int .i64 (j:Nat)):=(HKS.out _ hb5).2.1
    have r2f:W5.frozen? ⟨g,K*3+2,none⟩=false:=by
     obtain ⟨g1,hg1,_,_,_,f5⟩:=eF hC5.rows.row (cg (l:=l0) (s:=x) (j:=2) (u:=.int .i64 x.next) rfl)
     cases hg1
     rw [HK.out] at f5;exact f5
    have hC6:=hC5.bump rfl n2 (by have:=HN2.out;omega) (by have:=HN2.out;have:=HJ.out.2;omega) (by
     have h1:=HN2.out;have h2:=HJ.out.2;refine ⟨fun h9=>?_,fun h9=>?_⟩
     ·exact absurd h9 (by decide)
     ·show n2<(x.l.length:Int);omega)
    rw [HK.out] at hC6;have hF6:Fr (RW p (some ⟨g,0,none⟩)) wo (W5.setCell ⟨g,K*3+2,none⟩ (.int .i64 n2)):=(Fr.of_below hb5).trans (aT (.inr ⟨_,rfl,rfl⟩));have hE6:=hE.next hF6 hC6
    have hbg:b≠g:=by have:=HG.out;omega
    have hX6:aa (W5.setCell ⟨g,K*3+2,none⟩ (.int .i64 n2)) b 117 #[.slice z.ka z.c.key.length z.kc,.int .i64 z.c.size,.slice z.va z.c.val.length z.vc,.int .u32 (z.c.over:Nat),.int .u32 (z.c.kid:Nat)]:=hX5.far (by show b≠g;exact hbg) _
    have r6:(W5.setCell ⟨g,K*3+2,none⟩ (.int .i64 n2)).cell? ⟨g,K*3,none⟩=some (.bool x.leaf):=by
     obtain ⟨g1,hg1,_,_,f5,_⟩:=eF hC6.rows.row (cg (l:=l0) (s:={x with next:=n2}) (j:=0) (u:=.bool x.leaf) rfl)
     cases hg1
     rw [HK.out] at f5;exact f5
    have hCO:=HX.out.1.cells;have hzk:=ax (hCO.at_.key z (mG HZ.out.1)) hF6 (fun h0 ad e hh=>hCO.ka z (mG HZ.out.1) h0 ad e (WZ.of_rw hh));have hzv:=ax (hCO.at_.val z (mG HZ.out.1)) hF6 (fun h0 ad e hh=>hCO.va z (mG HZ.out.1) h0 ad e (WZ.of_rw hh))
    have hR6:R=if x.leaf=true then (match eE t (s1.step {x.sl with next:=n2}) z.c with
     | .error e=>.error e
     | .ok r=>.ok (some r.1,r.2)) else (match bm t 21 (s1.step {x.sl with next:=n2}) z.c.kid [] with
     | .error e=>.error e
     | .ok c2=>iK t f c2):=by
     rw [hR]
     conv=>lhs;unfold iK
     rw [HLA.out];have h7:x.sl.next=(j:Int):=HJ.out.1
     have h8:x.sl.l[x.sl.next.toNat]?=some z.c:=by
      rw [h7,j3];show (x.l.map CX.c)[j]?=_;rw [List.getElem?_map,HZ.out.1];rfl
     simp only;rw [if_neg (by rw [h7];omega)];rw [h8];simp only;rw [h7,HN2.out];rfl
    have HS:=lH (aI hE6 (aI hX6 (aI hzk (aI hzv (aI hR6 (aI hAR (hF.rw hAR hF6)))))));have hkN:=hCO.ka z (mG HZ.out.1);have hvN:=hCO.va z (mG HZ.out.1);have hfit:=HX.out.1.fit z (mG HZ.out.1);have HN:=lH (aI hkN (aI hvN hfit));clear hE hR hAR hF hC5 hC6 hF6 hE6 hX6 hX5 hCO hzk hzv hR6 hW5 hb hkN hvN hfit hL5
    obtain ⟨lf,hlf⟩:∃ lf,x.leaf=lf:=⟨_,rfl⟩
    rw [hlf] at r0 r6 HS;have HLF:=lH hlf;clear hlf
    cases lf with
    | true =>
     go_wp2_with fail
     obtain ⟨W6,hW6⟩:∃ W6,W5.setCell ⟨g,K*3+2,none⟩ (.int .i64 n2)=W6:=⟨_,rfl⟩
     rw [hW6] at HS r6 ⊢
     have kX:∀ W,aa W b 117 #[.slice z.ka z.c.key.length z.kc,.int .i64 z.c.size,.slice z.va z.c.val.length z.vc,.int .u32 (z.c.over:Nat),.int .u32 (z.c.kid:Nat)]->(W.cell? ⟨b,0,none⟩=some (.slice z.ka z.c.key.length z.kc)/\W.cell? ⟨b,1,none⟩=some (.int .i64 z.c.size)/\W.cell? ⟨b,2,none⟩=some (.slice z.va z.c.val.length z.vc)/\W.cell? ⟨b,3,none⟩=some (.int .u32 (z.c.over:Nat))/\W.cell? ⟨b,4,none⟩=some (.int .u32 (z.c.kid:Nat))):=fun W h9=>⟨h9.cell 0,h9.cell 1,h9.cell 2,h9.cell 3,h9.cell 4⟩
     have hbr:¬ RW p (some ⟨g,0,none⟩) b:=fun e=>by
      rcases e with e | ⟨ad,e1,e2⟩
      ·omega
      ·cases e1
       exact hbg e2.symm
     obtain ⟨R2,HR2⟩:∃ R2,Hid (eE t (s1.step {x.sl with next:=n2}) z.c=R2):=⟨_,lH rfl⟩
     have hEN:Hid (∀ W,Below W6.heap.size W6 W->Calls Tryz.prog 49 #[.pointer (some ⟨p,0,none⟩),z.val,.int .i64 (-1)] W fun e w'=>_):=lH fun W hW=>(yD (w:=W) (HS.out.1.next (Fr.of_below hW) (HS.out.1.cur.below hW)) z (rM (HS.out.2.2.1.below hW) hW.size) HN.out.1 (rM (HS.out.2.2.2.1.below hW) hW.size) HN.out.2.1 HN.out.2.2).mono fun e w' h=>h.one;rw [HR2.out] at hEN;unfold CX.val cellV at hEN;have hs6:w1.heap.size<=W6.heap.size:=HS.out.2.2.2.2.2.2.size;have h0:=bR W6.heap.size W6;clear hW6;refine bB 10 (fun W=>W.cell? ⟨b,0,none⟩=some (.slice z.ka z.c.key.length z.kc)/\W.cell? ⟨b,1,none⟩=some (.int .i64 z.c.size)/\W.cell? ⟨b,2,none⟩=some (.slice z.va z.c.val.length z.vc)/\W.cell? ⟨b,3,none⟩=some (.int .u32 (z.c.over:Nat))/\W.cell? ⟨b,4,none⟩=some (.int .u32 (z.c.kid:Nat))) (kX _ HS.out.2.1.drew) (fun hHeld hTl=>?_);refine ae 0 hTl hHeld (fun hTl=>?_)
     try simp only [pT]
     refine ae 1 hTl hHeld (fun hTl=>?_)
     try simp only [pT]
     refine ae 2 hTl hHeld (fun hTl=>?_)
     try simp only [pT]
     refine ae 3 hTl hHeld (fun hTl=>?_)
     try simp only [pT]
     refine gi 4 8 rfl rfl (by kernel_rfl) (fun K1 hK1=>?_) (fun K1 hK1=>?_);have hTl:=hTl.step 4 (by kernel_rfl) (by decide);refine sC rfl 49 _ (by go_simp) (hEN.out _ h0.drew) ?_;rintro e W7 ⟨a1,m1,k1,a2,m2,k2,v,vb,rfl,hv,hF7,hP7⟩;refine ⟨_,rfl,?_⟩;have hX7:=HS.out.2.1.drew.fr hF7 hbr;refine hK1.out _ _ (fun _=>kX _ hX7) ?_;clear hK1 K1
     try simp only [pT]
     have hHeld:=kX _ hX7;refine ae 5 hTl hHeld (fun hTl=>?_)
     try simp only [pT]
     refine ae 6 hTl hHeld (fun hTl=>?_)
     try simp only [pT]
     refine ae 7 hTl hHeld (fun hTl=>?_)
     try simp only [pT]
     clear hTl;refine aA 8 (fun K hK=>?_);go_simp;refine hK.out _ _ (fun _=>kX _ (hX7.alloc _)) ?_;clear hK K
     try simp only [pT]
     have hL8:aa (W7.alloc (.cells #[.slice none 0 0,.slice none 0 0] 41)) W7.heap.size 41 #[.slice none 0 0,.slice none 0 0]:=aa.new _ _ _;have h67:W6.heap.size<=W7.heap.size:=hF7.size;have hb7:b<W7.heap.size:=hX7.lt;refine aA 9 (fun K hK=>?_);refine au rfl 41 (.tmp 7) (.tmp 79) rfl W7.heap.size _ rfl rfl 41 _ hL8 (by kernel_rfl) rfl (by simp [Value.oneCell']) ?_
     skip
     refine hK.out _ _ (fun _=>kX _ ((hX7.alloc _).fr (fS _ _ _) (fun e=>by have e:b=W7.heap.size:=e;omega))) ?_;clear hK K
     try simp only [pT]
     refine az 10 (fun K hK=>?_);go_simp;refine hK.out _ _ ?_;clear hK K
     try simp only [pT]
     refine cW ?_ _;have hPx:iM Z 81 B p T W6.heap.size (some ⟨g,0,none⟩) c1 _ R2 a1 m1 k1 a2 m2 k2 v vb ((W7.alloc (.cells #[.slice none 0 0,.slice none 0 0] 41)).setRow W7.heap.size #[.slice a1 m1 k1,.slice a2 m2 k2]):=iM.below hP7 (((bR _ W7).alloc (nR _) _).trans ((fS _ W7.heap.size _).below (B:=W7.heap.size) (by simp) (fun k e=>by have e:k=W7.heap.size:=e;omega)));have hFx:Fr (RW p (some ⟨g,0,none⟩)) W6 ((W7.alloc (.cells #[.slice none 0 0,.slice none 0 0] 41)).setRow W7.heap.size #[.slice a1 m1 k1,.slice a2 m2 k2]):=((Fr.refl _ W6).drew.trans (hF7.alloc _)).late (fS _ W7.heap.size _) (fun k hk e=>by have e:k=W7.heap.size:=e;omega);have hLx:aa ((W7.alloc (.cells #[.slice none 0 0,.slice none 0 0] 41)).setRow W7.heap.size #[.slice a1 m1 k1,.slice a2 m2 k2]) W7.heap.size 41 #[.slice a1 m1 k1,.slice a2 m2 k2]:=setRow_heap _ _ _ _ _ _ hL8
     obtain ⟨W8,hW8⟩:∃ W8,(W7.alloc (.cells #[.slice none 0 0,.slice none 0 0] 41)).setRow W7.heap.size #[.slice a1 m1 k1,.slice a2 m2 k2]=W8:=⟨_,rfl⟩
     rw [hW8] at hPx hFx hLx ⊢
     obtain ⟨e8,he8⟩:∃ e8,W7.heap.size=e8:=⟨_,rfl⟩
     rw [he8] at hLx h67 ⊢;clear hW8 hL8 hX7 hF7 hP7 hHeld;rotate_left;have hTl2:=hTl.step 8 (by kernel_rfl) (by decide);clear hTl;go_simp;refine hK1.out _ _ (fun _=>kX _ (HS.out.2.1.drew.alloc _)) ?_;clear hK1 K1
     try simp only [pT]
     have hTl:=hTl2;clear hTl2;have hL8:aa (W6.drew.alloc (.cells #[.slice none 0 0,.slice none 0 0] 41)) W6.heap.size 41 #[.slice none 0 0,.slice none 0 0]:=aa.new _ _ _;have hba:Below W6.heap.size W6 (W6.drew.alloc (.cells #[.slice none 0 0,.slice none 0 0] 41)):=h0.drew.alloc (nR _) _;have hXa:=HS.out.2.1.below hba HS.out.2.1.lt;have hsa:(W6.drew.alloc (.cells #[.slice none 0 0,.slice none 0 0] 41)).heap.size=W6.heap.size+1:=World.size_alloc _ _
     have hgr:¬ RW p (some ⟨g,0,none⟩) W6.heap.size:=fun e=>by
      have h8:=HS.out.1.cur.blk.lt
      rcases e with e | ⟨ad,e1,e2⟩
      ·omega
      ·have:=(HS.out.1.cur.rows.lo_row ad e1).2;omega
     have hTl2:=hTl.step 4 (by kernel_rfl) (by decide);clear hTl;refine sP 4 (hEN.out _ hba) ?_
     rintro e W7 ⟨a1,m1,k1,a2,m2,k2,v,vb,rfl,hv,hF7,hP7⟩;have hX7:=hXa.fr hF7 hbr
     refine ⟨_,rfl,(fun _=>kX _ hX7),?_⟩
     try simp only [pT]
     have hTl:=hTl2;clear hTl2;have hHeld:=kX _ hX7;refine ae 5 hTl hHeld (fun hTl=>?_)
     try simp only [pT]
     refine ae 6 hTl hHeld (fun hTl=>?_)
     try simp only [pT]
     refine ae 7 hTl hHeld (fun hTl=>?_)
     try simp only [pT]
     clear hTl;have hL7:aa W7 W6.heap.size 41 #[.slice none 0 0,.slice none 0 0]:=hL8.fr hF7 hgr;have h67:W6.heap.size<=W6.heap.size:=nR _;refine aA 9 (fun K hK=>?_);refine au rfl 41 (.tmp 7) (.tmp 79) rfl W6.heap.size _ rfl rfl 41 _ hL7 (by kernel_rfl) rfl (by simp [Value.oneCell']) ?_
     skip
     refine hK.out _ _ (fun _=>kX _ (hX7.fr (fS _ _ _) (fun e=>by have e:b=W6.heap.size:=e;have:=HS.out.2.1.lt;omega))) ?_;clear hK K
     try simp only [pT]
     refine az 10 (fun K hK=>?_);go_simp;refine hK.out _ _ ?_;clear hK K
     try simp only [pT]
     refine cW ?_ _;have hPx:iM Z 81 B p T W6.heap.size (some ⟨g,0,none⟩) c1 _ R2 a1 m1 k1 a2 m2 k2 v vb (W7.setRow W6.heap.size #[.slice a1 m1 k1,.slice a2 m2 k2]):=(hP7.slices hL7 bU (fS _ _ _) hgr (by show W6.heap.size<(W6.drew.alloc (.cells #[.slice none 0 0,.slice none 0 0] 41)).heap.size;rw [hsa];omega)).lo (by show W6.heap.size<=(W6.drew.alloc (.cells #[.slice none 0 0,.slice none 0 0] 41)).heap.size;rw [hsa];omega);have hFx:Fr (RW p (some ⟨g,0,none⟩)) W6 (W7.setRow W6.heap.size #[.slice a1 m1 k1,.slice a2 m2 k2]):=((Fr.of_below hba).trans hF7).late (fS _ W6.heap.size _) (fun k hk e=>by have e:k=W6.heap.size:=e;omega);have hLx:aa (W7.setRow W6.heap.size #[.slice a1 m1 k1,.slice a2 m2 k2]) W6.heap.size 41 #[.slice a1 m1 k1,.slice a2 m2 k2]:=setRow_heap _ _ _ _ _ _ hL7
     obtain ⟨W8,hW8⟩:∃ W8,W7.setRow W6.heap.size #[.slice a1 m1 k1,.slice a2 m2 k2]=W8:=⟨_,rfl⟩
     rw [hW8] at hPx hFx hLx ⊢
     obtain ⟨e8,he8⟩:∃ e8,W6.heap.size=e8:=⟨_,rfl⟩
     have h67:W6.heap.size<=e8:=by omega
     rw [he8] at hLx ⊢;clear hW8 hL8 hL7 hX7 hF7 hP7 hHeld hba hXa hsa hgr
     all_goals (
      have hres6:=HH.out.2.2.1.fr HS.out.2.2.2.2.2.2 (fun e=>by
       rcases e with e | ⟨ad,e1,e2⟩
       ·omega
       ·have:=hAl ad e1;omega)
      have hrn:¬ RW p (some ⟨g,0,none⟩) w.heap.size:=fun e=>by
       rcases e with e | ⟨ad,e1,e2⟩
       ·omega
       ·rcases HS.out.2.2.2.2.2.1 ad e1 with ⟨a,e3,e4⟩ | h9
        ·have:=hAl a e3;omega
        ·omega
      have hres8:=hres6.fr hFx hrn;have s0:W8.drew.cell? ⟨e8,0,none⟩=some (.slice a1 m1 k1):=hLx.cell 0;have s1x:W8.drew.cell? ⟨e8,1,none⟩=some (.slice a2 m2 k2):=hLx.cell 1
      have hn8:w.heap.size≠e8:=by omega
      go_wp2_with fail
      rcases hv with ⟨rfl,rfl⟩ | ⟨⟨tv,pe,rfl⟩,rfl⟩
      all_goals (
       have hL9x:aa (W8.drew.setRow w.heap.size #[.slice a1 m1 k1,.slice a2 m2 k2]) e8 41 #[.slice a1 m1 k1,.slice a2 m2 k2]:=(hLx.drew).fr (fS _ _ _) (fun e=>hn8 e.symm);refine bB 6 (fun W=>W.cell? ⟨e8,0,none⟩=some (.slice a1 m1 k1)/\W.cell? ⟨e8,1,none⟩=some (.slice a2 m2 k2)) (⟨s0,s1x⟩) (fun hHeld hTl=>?_);refine ae 0 hTl hHeld (fun hTl=>?_)
       try simp only [pT]
       refine ae 1 hTl hHeld (fun hTl=>?_)
       try simp only [pT]
       refine ae 2 hTl hHeld (fun hTl=>?_)
       try simp only [pT]
       refine ae 3 hTl hHeld (fun hTl=>?_)
       try simp only [pT]
       clear hTl;refine aA 4 (fun K hK=>?_);refine au rfl 41 (.tmp 2) (.tmp 81) rfl w.heap.size _ rfl rfl 41 _ hres8.drew (by kernel_rfl) rfl (by simp [Value.oneCell']) ?_
       skip
       refine hK.out _ _ (fun _=>⟨hL9x.cell 0,hL9x.cell 1⟩) ?_;clear hK K
       try simp only [pT]
       refine aA 5 (fun K hK=>?_);go_simp;refine hK.out _ _ (fun _=>⟨hL9x.cell 0,hL9x.cell 1⟩) ?_;clear hK K
       try simp only [pT]
       refine az 6 (fun K hK=>?_);go_simp;refine hK.out _ _ ?_;clear hK K
       try simp only [pT]
       refine cW ?_ _
       go_wp2_with fail
       refine bodyPost_ret (aG rfl _ _ w.heap.size 41 _ (0,0) _ rfl (setRow_heap _ _ _ _ _ _ hres8.drew) Tryz.underlying41 rfl (by kernel_rfl)) rfl ?_;have hP9:=(hPx.below ((bR _ _).drew)).slices hres8.drew bU (fS _ w.heap.size #[.slice a1 m1 k1,.slice a2 m2 k2]) hrn (by omega);have hF9:∀ cs,Fr (RW p A) w (W8.drew.setRow w.heap.size cs):=fun cs=>((Fr.of_below HH.out.2.2.2).trans (HS.out.2.2.2.2.2.2.rw HS.out.2.2.2.2.2.1 hFx)).drew.late (fS _ w.heap.size _) (fun k hk e=>by have e:k=w.heap.size:=e;omega);have hAR9:AR w.heap.size A (some ⟨g,0,none⟩):=fun a e=>(HS.out.2.2.2.2.2.1 a e).imp id (fun h=>by omega)
       have hR9:R=(match (generalizing:=false) R2 with
        | .error e=>.error e
        | .ok r=>.ok (some r.1,r.2)):=by
        rw [HS.out.2.2.2.2.1]
        first
         | rw [if_pos rfl,HR2.out]
         | rw [if_pos trivial,HR2.out]
       have hlo9:w.heap.size<=W6.heap.size:=by omega
       clear HR2
       cases R2 with
       | error k9 =>
        obtain ⟨rfl,rfl,rfl,rfl,rfl,rfl,hb9,hk9,hv9,cs9,hc9,hc6⟩:=hP9
        first
         | exact absurd hb9 (by decide)
         | (rw [hR9];exact ⟨⟨_,cs9,rfl,hk9,hv9.lo hlo9,hc9,hc6⟩,hF9 _⟩)
       | ok r9 =>
        obtain ⟨⟨key,val⟩,s7⟩:=r9;obtain ⟨hb9,rfl,rfl,hC9,hl9,hr9,hn9⟩:=hP9
        first
         | exact absurd hb9 (by decide)
         | (rw [hR9];exact ⟨⟨a1,k1,a2,k2,rfl,hl9,hr9,some ⟨g,0,none⟩,c1,_,hC9,hAR9,hn9⟩,hF9 _⟩)))
    | false =>
     have r64:(W5.setCell ⟨g,K*3+2,none⟩ (.int .i64 n2)).cell? ⟨b,4,none⟩=some (.int .u32 (z.c.kid:Nat)):=HS.out.2.1.cell 4;have hEn:=qP HS.out.1 z.c.kid HN.out.2.2.2 (tA:=none) 0 (key:=[]) ⟨rfl,fun h9=>absurd h9 (by decide)⟩ (fun _ ad e9=>by cases e9) (by decide);have hEn:Calls Tryz.prog 31 #[.pointer (some ⟨p,0,none⟩),.int .u32 (z.c.kid:Nat),.slice none 0 0] (W5.setCell ⟨g,K*3+2,none⟩ (.int .i64 n2)) fun e w'=>_:=hEn
     have hres6:=HH.out.2.2.1.fr HS.out.2.2.2.2.2.2 (fun e=>by
      rcases e with e | ⟨ad,e1,e2⟩
      ·omega
      ·have:=hAl ad e1;omega)
     have hrn:¬ RW p (some ⟨g,0,none⟩) w.heap.size:=fun e=>by
      rcases e with e | ⟨ad,e1,e2⟩
      ·omega
      ·rcases HS.out.2.2.2.2.2.1 ad e1 with ⟨a,e3,e4⟩ | h9
       ·have:=hAl a e3;omega
       ·omega
     have hs6:w1.heap.size<=(W5.setCell ⟨g,K*3+2,none⟩ (.int .i64 n2)).heap.size:=HS.out.2.2.2.2.2.2.size
     have hR7:R=(match (generalizing:=false) bm t 21 (s1.step {x.sl with next:=n2}) z.c.kid [] with
      | .error e=>.error e
      | .ok c2=>iK t f c2):=by
      rw [HS.out.2.2.2.2.1]
      first
       | rw [if_neg (by decide)]
       | rw [if_neg (fun h=>h)]
     obtain ⟨R3,HR3⟩:∃ R3,Hid (bm t 21 (s1.step {x.sl with next:=n2}) z.c.kid []=R3):=⟨_,lH rfl⟩
     rw [HR3.out] at hR7 hEn;have HR7:=lH hR7;clear hR7
     cases R3 with
     | error k9 =>
      go_wp2_with (first
       | (
        go_at_call 31;refine hEn.mono ?_;rintro e W7 ⟨⟨v,cs7,rfl,hk9,hv9,hc7,hc6⟩,hF7⟩
        have hvv:∃ tv pe,v=.iface tv pe:=(by rcases hv9 with ⟨h9,_⟩ | ⟨_,e9⟩ | ⟨_,r,op,nm,e9,_⟩;exact absurd h9 hk9;exact ⟨_,_,e9⟩;exact ⟨_,_,e9⟩)
        obtain ⟨tv,pe,rfl⟩:=hvv
        have hres7:=hres6.fr hF7 hrn)
       | (refine wpList_store_row rfl 41 _ _ rfl w.heap.size _ rfl rfl 41 _ hres7 (by kernel_rfl) rfl (by simp [Value.oneCell']) ?_))
      refine bodyPost_ret (aG rfl _ _ w.heap.size 41 _ (0,0) _ rfl (setRow_heap _ _ _ _ _ _ hres7) Tryz.underlying41 rfl (by kernel_rfl)) rfl ?_;have hF9:∀ cs,Fr (RW p A) w (W7.setRow w.heap.size cs):=fun cs=>((Fr.of_below HH.out.2.2.2).trans (HS.out.2.2.2.2.2.2.rw HS.out.2.2.2.2.2.1 hF7)).late (fS _ w.heap.size _) (fun k hk e=>by have e:k=w.heap.size:=e;omega);rw [HR7.out];exact ⟨⟨_,cs7,rfl,hk9,(hv9.fr (fS _ w.heap.size _) (fun r hr _ e=>by have e:r=w.heap.size:=e;omega)).lo (by omega),hc7.fr (fS _ _ _) (fun e=>by have e:p=w.heap.size:=e;omega),hc6⟩,hF9 _⟩
     | ok s7 =>
      go_wp2_with (first
       | (go_at_call 31;refine hEn.mono ?_;rintro e W7 ⟨⟨rfl,A7,c7,l7,hC7,hAR7⟩,hF7⟩))
      have hpg:=mA HR3.out;have hpg:s1.pages<s7.pages:=hpg;have k1:=hC7.blk.cell 1;have k4:=hC7.blk.cell 4
      have hmu7:mu s7<f:=by
       have h1:=HWL.out;have h2:=hC7.len;have h3:=hC7.few;have h4:=hC7.pg;unfold mu at *;omega
      have h9:=HWL.out;have h2:=hC7.len;have h3:=hC7.few;have h4:=hC7.pg
      go_roundw
      case rel=>exact ⟨l7,A7,c7,f,s7,HS.out.1.next hF7 hC7,HR7.out,hmu7,HS.out.2.2.2.2.2.1.trans hAR7 hs6,HS.out.2.2.2.2.2.2.rw HS.out.2.2.2.2.2.1 hF7⟩
      case measure =>
       rw [hm1,hm4,k1,k4];show (513-((s7.pages:Nat):Int).toNat)*25+l7.length<(513-((s1.pages:Nat):Int).toNat)*25+(K+1);omega
def wD (ty p:Nat) (W:World):Prop:=∃ cs,aa W p ty cs/\cs.size=6/\cs[5]?=some (.bool true)
def GJ (Z:Nat->Prop) (ty B p T H:Nat) (A kA:Option Addr) (kc:Nat) (R:Except Int (Option eS × SW)) (a1:Option Addr) (m1 k1:Nat) (a2:Option Addr) (m2 k2:Nat) (ok:Bool) (v:Value) (kk:Int) (W:World):Prop:=dX H W kk v/\(∃ cs,aa W p ty cs/\cs.size=6)/\(match R with
 | .error k=>(a1=none/\m1=0/\k1=0/\a2=none/\m2=0/\k2=0)/\ok=false/\kk=k/\k≠0
 | .ok (none,_)=>(a1=none/\m1=0/\k1=0/\a2=none/\m2=0/\k2=0)/\ok=false/\kk=0
 | .ok (some (key,val),s')=>m1=key.length/\m2=val.length/\ok=true/\kk=0/\s'.last=key/\Reads W W.heap.size 1 a2 val.length (bl val)/\∃ A' cc' l',CW Z ty B p T W A' cc' a1 k1 l' s'/\AR H A A'/\(val.length≠0->∀ ad,a2=some ad->¬ WZ Z B p A' ad.block))
theorem Fg.one {Z:Nat->Prop} {ty B p T:Nat} {w:World} {A kA:Option Addr} {kc:Nat} {R:Except Int (Option eS × SW)} {e:Ending} {w':World} (h:Fg Z ty B p T w A kA kc R e w'):∃ a1 m1 k1 a2 m2 k2 ok v kk,e=.returned (.tuple #[.agg #[.slice a1 m1 k1,.slice a2 m2 k2],.bool ok,v])/\Fr (RW p A) w w'/\GJ Z ty B p T w.heap.size A kA kc R a1 m1 k1 a2 m2 k2 ok v kk w':=by
 obtain ⟨h,hf⟩:=h
 rcases R with k | ⟨_ | ⟨key,val⟩,s'⟩
 ·obtain ⟨v,cs,rfl,hk,hv,hb,hc⟩:=h;exact ⟨none,0,0,none,0,0,false,v,k,rfl,hf,hv,⟨cs,hb,hc⟩,⟨rfl,rfl,rfl,rfl,rfl,rfl⟩,rfl,rfl,hk⟩
 ·obtain ⟨rfl,A',cc',l',hC,hA⟩:=h;exact ⟨none,0,0,none,0,0,false,.nilIface,0,rfl,hf,.inl ⟨rfl,rfl⟩,⟨_,hC.blk,rfl⟩,⟨rfl,rfl,rfl,rfl,rfl,rfl⟩,rfl,rfl⟩
 ·obtain ⟨k2,c2,vA,vc,rfl,h1,h2,A',cc',l',hC,hA,hN⟩:=h;exact ⟨k2,_,c2,vA,_,vc,true,.nilIface,0,rfl,hf,.inl ⟨rfl,rfl⟩,⟨_,hC.blk,rfl⟩,rfl,rfl,rfl,rfl,h1,h2,A',cc',l',hC,hA,hN⟩
def yE (Z:Nat->Prop) (ty B p T H:Nat) (A kA:Option Addr) (kc:Nat) (R:Except Int (Option eS × SW)) (a1:Option Addr) (m1 k1:Nat) (a2:Option Addr) (m2 k2:Nat) (ok:Bool) (W:World):Prop:=match R with
 | .error k=>(a1=none/\m1=0/\k1=0/\a2=none/\m2=0/\k2=0)/\ok=false/\wD ty p W
 | .ok (none,_)=>(a1=none/\m1=0/\k1=0/\a2=none/\m2=0/\k2=0)/\ok=false/\wD ty p W
 | .ok (some (key,val),s')=>m1=key.length/\m2=val.length/\ok=true/\s'.last=key/\Reads W W.heap.size 1 a2 val.length (bl val)/\∃ A' cc' l',CW Z ty B p T W A' cc' a1 k1 l' s'/\AR H A A'/\(val.length≠0->∀ ad,a2=some ad->¬ WZ Z B p A' ad.block)
theorem yE.below {Z:Nat->Prop} {ty B p T H:Nat} {A kA:Option Addr} {kc:Nat} {R:Except Int (Option eS × SW)} {a1:Option Addr} {m1 k1:Nat} {a2:Option Addr} {m2 k2:Nat} {ok:Bool} {W W':World} (h:yE Z ty B p T H A kA kc R a1 m1 k1 a2 m2 k2 ok W) (hb:Below W.heap.size W W'):yE Z ty B p T H A kA kc R a1 m1 k1 a2 m2 k2 ok W':=by
 match R,h with
 | .error k,⟨h1,h2,cs,h3,h4⟩=>exact ⟨h1,h2,cs,(hb.block p h3.lt).trans h3,h4⟩
 | .ok (none,s'),⟨h1,h2,cs,h3,h4⟩=>exact ⟨h1,h2,cs,(hb.block p h3.lt).trans h3,h4⟩
 | .ok (some (key,val),s'),⟨h1,h2,h3,h4,h5,A',cc',l',hC,hA,hN⟩=>exact ⟨h1,h2,h3,h4,rM (h5.below hb) hb.size,A',cc',l',hC.below hb,hA,hN⟩
theorem yE.slices {Z:Nat->Prop} {ty B p T H g te:Nat} {A kA:Option Addr} {kc:Nat} {R:Except Int (Option eS × SW)} {a1:Option Addr} {m1 k1:Nat} {a2:Option Addr} {m2 k2:Nat} {ok:Bool} {W W':World} {cs:Array Value} (h:yE Z ty B p T H A kA kc R a1 m1 k1 a2 m2 k2 ok W) (hB:aa W g te cs) (hs:lm cs) (hf:Fr (fun k=>k=g) W W') (hp:p≠g) (hA:∀ ad,A=some ad->ad.block≠g) (hH:g<H):yE Z ty B p T H A kA kc R a1 m1 k1 a2 m2 k2 ok W':=by
 match R,h with
 | .error k,⟨h1,h2,cs,h3,h4⟩=>exact ⟨h1,h2,cs,h3.fr hf hp,h4⟩
 | .ok (none,s'),⟨h1,h2,cs,h3,h4⟩=>exact ⟨h1,h2,cs,h3.fr hf hp,h4⟩
 | .ok (some (key,val),s'),⟨h1,h2,h3,h4,h5,A',cc',l',hC,hA',hN⟩ =>
  exact ⟨h1,h2,h3,h4,ax h5 hf (dS h5 hB hs),A',cc',l',hC.slices hB hs hf (fun e=>by
   rcases e with e | ⟨ad,e1,e2⟩
   ·exact hp e.symm
   ·rcases hA' ad e1 with ⟨a,e3,e4⟩ | h9
    ·exact hA a e3 (e4.trans e2)
    ·omega),hA',hN⟩
theorem GJ.done {Z:Nat->Prop} {ty B p T H:Nat} {A kA:Option Addr} {kc:Nat} {R:Except Int (Option eS × SW)} {a1:Option Addr} {m1 k1:Nat} {a2:Option Addr} {m2 k2:Nat} {ok:Bool} {v:Value} {kk:Int} {W:World} (h:GJ Z ty B p T H A kA kc R a1 m1 k1 a2 m2 k2 ok v kk W) (hd:∀ x s',R=.ok (some x,s')->s'.done=false):yE Z ty B p T H A kA kc R a1 m1 k1 a2 m2 k2 ok (W.setCell ⟨p,5,none⟩ (.bool (!ok))):=by
 obtain ⟨_,⟨cs,hcs,h6⟩,h⟩:=h
 have hD:ok=false->wD ty p (W.setCell ⟨p,5,none⟩ (.bool (!ok))):=fun e=>by
  subst e;refine ⟨_,hcs.set_ 5 _,by simpa using h6,?_⟩;rw [Array.getElem?_setIfInBounds,if_pos rfl,if_pos (by omega)];rfl
 match R,h with
 | .error k,⟨h1,h2,h3⟩=>exact ⟨h1,h2,hD h2⟩
 | .ok (none,s'),⟨h1,h2,h3⟩=>exact ⟨h1,h2,hD h2⟩
 | .ok (some (key,val),s'),⟨h1,h2,h3,h4,h5,h7,A',cc',l',hC,hA',hN⟩ =>
  subst h3;have hf:Fr (fun k=>k=p) W (W.setCell ⟨p,5,none⟩ (.bool false)):=aT rfl;refine ⟨h1,h2,rfl,h5,ax h7 hf (fun h0 ad e hh=>hN h0 ad e (.inr (.inl hh))),A',cc',l',hC.put (s':=s') hf ?_ rfl rfl hC.pg,hA',hN⟩;have:=hC.blk.set_ 5 (.bool false);rw [hd _ _ rfl];exact this
def DL (Z:Nat->Prop) (ty B p T:Nat) (op:ByteArray) (w:World) (A:Option Addr) (r:Except Int (Option eS) × SW) (e:Ending) (w':World):Prop:=(match r.1 with
 | .error k=>∃ v,e=.returned (.tuple #[zeroV,.bool false,v])/\k≠0/\cm w.heap.size w' op ⟨#[]⟩ k v/\wD ty p w'
 | .ok none=>e=.returned (.tuple #[zeroV,.bool false,.nilIface])/\wD ty p w'
 | .ok (some (key,val))=>∃ k2 c2 vA vc,e=.returned (.tuple #[ot k2 key.length c2 vA val.length vc,.bool true,.nilIface])/\r.2.last=key/\Reads w' w'.heap.size 1 vA val.length (bl val) /\
  ∃ A' cc' l',CW Z ty B p T w' A' cc' k2 c2 l' r.2/\AR w.heap.size A A'/\(val.length≠0->∀ ad,vA=some ad->¬ WZ Z B p A' ad.block))/\Fr (RW p A) w w'
theorem jw {t:PT} {lo:Key} {c':SW}:∀ {f n:Nat} {c:SW},bk t f c n lo=.ok c'->c'.done=c.done
 | 0,n,c,h=>by cases h
 | f+1,n,c,h=>by
  unfold bk at h
  split at h
  ·cases h
  ·split at h
   ·cases h
    rfl
   ·exact (jw h).trans rfl
theorem jZ {t:PT} {x:eS} {c':SW}:∀ {f:Nat} {c:SW},iI t f c=.ok (some x,c')->c'.done=c.done
 | 0,c,h=>by cases h
 | f+1,c,h=>by
  unfold iI at h
  split at h
  ·cases h
  ·rename_i s hs
   split at h
   ·exact (jZ h).trans rfl
   ·split at h
    ·split at h
     ·cases h
     ·rename_i r hr
      cases h
      unfold eD at hr
      split at hr
      ·cases hr
      ·split at hr
       ·cases hr
       ·cases hr;rfl
    ·split at h
     ·cases h
     ·rename_i c2 hc2;exact (jZ h).trans ((jw hc2).trans rfl)
theorem BN {Z:Nat->Prop} {B p T M:Nat} {X:Nat->Prop} {w:World} {t:PT} {A:Option Addr} {cc:Nat} {kA:Option Addr} {kc:Nat} {l:List LX} {s:SW} (h:aR Z 75 B p T M X w t A cc kA kc l s) (hmu:mu s<110000) (hdn:s.done=false) :
 Calls Tryz.prog 15 #[.pointer (some ⟨p,0,none⟩)] w fun e w'=>DL Z 75 B p T ⟨#[110,101,120,116]⟩ w A (ia t s) e w':=by
 obtain ⟨w1,hw1⟩:∃ w1,w1=w.alloc (.cells #[.slice none 0 0,.slice none 0 0] 41):=⟨_,rfl⟩
 have hb1:Below w.heap.size w w1:=by rw [hw1];exact (bR _ w).alloc (nR _) _
 have hE1:aa w1 w.heap.size 41 #[.slice none 0 0,.slice none 0 0]:=by rw [hw1];exact aa.new _ _ _
 have hA1:=h.next (Fr.of_below hb1) (h.cur.below hb1);have hpl:=h.cur.blk.lt;have hAl:∀ ad,A=some ad->ad.block<w.heap.size:=fun ad e=>(h.cur.rows.lo_row ad e).2;have hs1:w.heap.size<w1.heap.size:=hE1.lt;have hAd:=(DJ hA1 hmu).mono fun e w' h=>h.one
 have k5:w.cell? ⟨p,5,none⟩=some (.bool false):=by rw [<-hdn];exact h.cur.blk.cell 5
 have k5x:(w.alloc (.cells #[.slice none 0 0,.slice none 0 0] 41)).cell? ⟨p,5,none⟩=some (.bool false):=by rw [<-hdn,<-hw1];exact hA1.cur.blk.cell 5
 have HH:=lH (aI h (aI hA1 (aI hE1 hb1)));have HW1:=lH hw1
 obtain ⟨R,HR⟩:∃ R,Hid (iI t 110000 s=R):=⟨_,lH rfl⟩
 rw [HR.out] at hAd;have HDN:=lH hdn
 have hRd:∀ x s',R=.ok (some x,s')->s'.done=false:=fun x s' e=>by rw [jZ (HR.out.trans e)];exact hdn
 obtain ⟨R0,HR0⟩:∃ R0,Hid (ia t s=R0):=⟨_,lH rfl⟩
 rw [HR0.out];clear h hA1 hE1 hw1 hb1 hdn;go_enter Tryz.func15,Tryz.ntmps15
 go_wp2_with (first
  | (
   rw [<-HW1.out];go_at_call 30;refine hAd.mono ?_;rintro e w2 ⟨a1,m1,k1,a2,m2,k2,ok,v,kk,rfl,hF2,hP2⟩;obtain ⟨cs,hcs,h6⟩:=hP2.2.1;have q5:w2.cell? ⟨p,5,none⟩=cs[5]?:=hcs.cell 5;have q5e:cs[5]?=some (cs[5]'(by omega)):=Array.getElem?_eq_getElem (by omega);rw [q5e] at q5;have f5:w2.frozen? ⟨p,5,none⟩=false:=hcs.frozen 5;have HQ:=lH (aI hP2 hcs);have hp2:=hcs.lt
   clear hP2 hcs q5e))
 have hN4:=HQ.out.1.done hRd
 have hs2:(w2.setCell ⟨p,5,none⟩ (.bool (!ok))).heap.size=w2.heap.size:=by simp [World.setCell]
 have hb4:Below (w2.setCell ⟨p,5,none⟩ (.bool (!ok))).heap.size (w2.setCell ⟨p,5,none⟩ (.bool (!ok))) ((w2.setCell ⟨p,5,none⟩ (.bool (!ok))).alloc (.cells #[.slice a1 m1 k1,.slice a2 m2 k2] 41)):=(bR _ _).alloc (nR _) _;have hN4:=hN4.below hb4
 have hL4:aa ((w2.setCell ⟨p,5,none⟩ (.bool (!ok))).alloc (.cells #[.slice a1 m1 k1,.slice a2 m2 k2] 41)) w2.heap.size 41 #[.slice a1 m1 k1,.slice a2 m2 k2]:=by rw [<-hs2];exact aa.new _ _ _
 have hF4:Fr (RW p A) w1 ((w2.setCell ⟨p,5,none⟩ (.bool (!ok))).alloc (.cells #[.slice a1 m1 k1,.slice a2 m2 k2] 41)):=(hF2.trans (aT (.inl rfl))).trans (Fr.of_below hb4);have hE4:dX w1.heap.size ((w2.setCell ⟨p,5,none⟩ (.bool (!ok))).alloc (.cells #[.slice a1 m1 k1,.slice a2 m2 k2] 41)) kk v:=(HQ.out.1.1.fr (X:=fun k=>k=p) (aT rfl) (fun r hr _ e=>by have e:r=p:=e;omega)).keep fun r _ hl=>hb4.block r hl;have hg4:ay ((w2.setCell ⟨p,5,none⟩ (.bool (!ok))).alloc (.cells #[.slice a1 m1 k1,.slice a2 m2 k2] 41)):=gI HH.out.2.1.g hF4 (fun e=>by have:=RW.lo HH.out.2.1.cur 0 e;have:=HH.out.2.1.pw;omega)
 have hr4:aa ((w2.setCell ⟨p,5,none⟩ (.bool (!ok))).alloc (.cells #[.slice a1 m1 k1,.slice a2 m2 k2] 41)) w.heap.size 41 #[.slice none 0 0,.slice none 0 0]:=HH.out.2.2.1.fr hF4 (fun e=>by
  rcases e with e | ⟨ad,e1,e2⟩
  ·omega
  ·have:=hAl ad e1;omega)
 have h12:w1.heap.size<=w2.heap.size:=hF2.size
 obtain ⟨w4,hw4⟩:∃ w4,(w2.setCell ⟨p,5,none⟩ (.bool (!ok))).alloc (.cells #[.slice a1 m1 k1,.slice a2 m2 k2] 41)=w4:=⟨_,rfl⟩
 rw [hw4] at hN4 hL4 hF4 hE4 hg4 hr4 ⊢;clear hw4 hb4
 obtain ⟨e8,he8⟩:∃ e8,w2.heap.size=e8:=⟨_,rfl⟩
 rw [he8] at hL4 ⊢;have hFa:=fun op=>ed op (w:=w4.drew) (hE4.keep (w':=w4.drew) fun r _ _=>rfl) (show ay w4.drew from hg4);have s0:w4.drew.cell? ⟨e8,0,none⟩=some (.slice a1 m1 k1):=hL4.cell 0;have s1x:w4.drew.cell? ⟨e8,1,none⟩=some (.slice a2 m2 k2):=hL4.cell 1;refine bB 6 (fun W=>W.cell? ⟨e8,0,none⟩=some (.slice a1 m1 k1)/\W.cell? ⟨e8,1,none⟩=some (.slice a2 m2 k2)) (⟨s0,s1x⟩) (fun hHeld hTl=>?_);refine ae 0 hTl hHeld (fun hTl=>?_)
 try simp only [pT]
 refine ae 1 hTl hHeld (fun hTl=>?_)
 try simp only [pT]
 refine ae 2 hTl hHeld (fun hTl=>?_)
 try simp only [pT]
 refine sP 3 (hFa ⟨#[110,101,120,116]⟩) ?_
 rintro e w5 ⟨v5,rfl,hv5,hb5⟩;have hb5:Below w4.heap.size w4 w5:=((bR _ w4).drew).trans hb5;have hL5:=hL4.below hb5 hL4.lt;have hr5:=hr4.below hb5 hr4.lt;have hN5:=hN4.below hb5;have hL9x:∀ cs,aa (w5.setRow w.heap.size cs) e8 41 #[.slice a1 m1 k1,.slice a2 m2 k2]:=fun cs=>hL5.fr (fS _ _ _) (fun e=>by have e:e8=w.heap.size:=e;omega)
 refine ⟨_,rfl,(fun _=>⟨hL5.cell 0,hL5.cell 1⟩),?_⟩
 try simp only [pT]
 refine aA 4 (fun K hK=>?_);refine au rfl 41 (.tmp 2) (.tmp 30) rfl w.heap.size _ rfl rfl 41 _ hr5 (by kernel_rfl) rfl (by simp [Value.oneCell']) ?_
 skip
 refine hK.out _ _ (fun _=>⟨(hL9x _).cell 0,(hL9x _).cell 1⟩) ?_;clear hK K
 try simp only [pT]
 refine aA 5 (fun K hK=>?_);go_simp;refine hK.out _ _ (fun _=>⟨(hL9x _).cell 0,(hL9x _).cell 1⟩) ?_;clear hK K
 try simp only [pT]
 refine az 6 (fun K hK=>?_);go_simp;refine hK.out _ _ ?_;clear hK K
 try simp only [pT]
 refine cW ?_ _
 go_wp2_with fail
 refine bodyPost_ret (aG rfl _ _ w.heap.size 41 _ (0,0) _ rfl (setRow_heap _ _ _ _ _ _ hr5) Tryz.underlying41 rfl (by kernel_rfl)) rfl ?_;have hN9:=hN5.slices hr5 bU (fS _ w.heap.size #[.slice a1 m1 k1,.slice a2 m2 k2]) (by omega) (fun ad e=>by have:=hAl ad e;omega) hs1;have hF9:∀ cs,Fr (RW p A) w (w5.setRow w.heap.size cs):=fun cs=>(((Fr.of_below HH.out.2.2.2).trans hF4).trans (Fr.of_below hb5)).late (fS _ w.heap.size _) (fun k hk e=>by have e:k=w.heap.size:=e;omega);have hE5:cm w.heap.size (w5.setRow w.heap.size #[.slice a1 m1 k1,.slice a2 m2 k2]) ⟨#[110,101,120,116]⟩ ⟨#[]⟩ kk v5:=(hv5.fr (fS _ w.heap.size _) (fun r hr e=>by have e:r=w.heap.size:=e;have hr:w4.heap.size<=r:=hr;have:=hr4.lt;omega)).lo (Nat.le_of_lt hr4.lt);have hP2:=HQ.out.1.2.2
 have hnx:ia t s=match (generalizing:=false) R with
  | .error e=>(.error e,{s with done:=true})
  | .ok (none,c')=>(.ok none,{c' with done:=true})
  | .ok (some x,c')=>(.ok (some x),c'):=by
  unfold ia;rw [if_neg (by rw [HDN.out];decide),HR.out]
  rcases R with k | ⟨_ | x,s'⟩ <;> rfl
 rw [<-HR0.out,hnx];clear hFa hnx
 rcases R with k | ⟨_ | ⟨key,val⟩,s'⟩
 ·obtain ⟨⟨rfl,rfl,rfl,rfl,rfl,rfl⟩,rfl,hD⟩:=hN9;obtain ⟨_,_,rfl,hk⟩:=hP2;exact ⟨⟨_,rfl,hk,hE5,hD⟩,hF9 _⟩
 ·obtain ⟨⟨rfl,rfl,rfl,rfl,rfl,rfl⟩,rfl,hD⟩:=hN9;obtain ⟨_,_,rfl⟩:=hP2
  rcases hE5 with ⟨_,rfl⟩ | ⟨h9,_⟩
  ·exact ⟨⟨rfl,hD⟩,hF9 _⟩
  ·exact absurd rfl h9
 ·obtain ⟨rfl,rfl,rfl,hl,hr9,A',cc',l',hC,hA',hN⟩:=hN9;obtain ⟨_,_,_,rfl,_⟩:=hP2
  rcases hE5 with ⟨_,rfl⟩ | ⟨h9,_⟩
  ·exact ⟨⟨a1,k1,a2,k2,rfl,hl,hr9,A',cc',l',hC,fun a e=>(hA' a e).imp id (fun h=>by omega),hN⟩,hF9 _⟩
  ·exact absurd rfl h9
theorem jx {t:PT} {lo:Key} {c':SW}:∀ {f n:Nat} {c:SW},bm t f c n lo=.ok c'->c'.done=c.done
 | 0,n,c,h=>by cases h
 | f+1,n,c,h=>by
  unfold bm at h
  split at h
  ·cases h
  ·split at h
   ·cases h
    rfl
   ·exact (jx h).trans rfl
theorem j7 {t:PT} {x:eS} {c':SW}:∀ {f:Nat} {c:SW},iK t f c=.ok (some x,c')->c'.done=c.done
 | 0,c,h=>by cases h
 | f+1,c,h=>by
  unfold iK at h
  split at h
  ·cases h
  ·rename_i s hs
   split at h
   ·exact (j7 h).trans rfl
   ·split at h
    ·cases h
    ·split at h
     ·split at h
      ·cases h
      ·rename_i r hr
       cases h
       unfold eE at hr
       split at hr
       ·cases hr
       ·split at hr
        ·cases hr
        ·cases hr;rfl
     ·split at h
      ·cases h
      ·rename_i c2 hc2;exact (j7 h).trans ((jx hc2).trans rfl)
theorem BO {Z:Nat->Prop} {B p T M:Nat} {X:Nat->Prop} {w:World} {t:PT} {A:Option Addr} {cc:Nat} {kA:Option Addr} {kc:Nat} {l:List LX} {s:SW} (h:aR Z 81 B p T M X w t A cc kA kc l s) (hmu:mu s<110000) (hdn:s.done=false) :
 Calls Tryz.prog 17 #[.pointer (some ⟨p,0,none⟩)] w fun e w'=>DL Z 81 B p T ⟨#[112,114,101,118]⟩ w A (iS t s) e w':=by
 obtain ⟨w1,hw1⟩:∃ w1,w1=w.alloc (.cells #[.slice none 0 0,.slice none 0 0] 41):=⟨_,rfl⟩
 have hb1:Below w.heap.size w w1:=by rw [hw1];exact (bR _ w).alloc (nR _) _
 have hE1:aa w1 w.heap.size 41 #[.slice none 0 0,.slice none 0 0]:=by rw [hw1];exact aa.new _ _ _
 have hA1:=h.next (Fr.of_below hb1) (h.cur.below hb1);have hpl:=h.cur.blk.lt;have hAl:∀ ad,A=some ad->ad.block<w.heap.size:=fun ad e=>(h.cur.rows.lo_row ad e).2;have hs1:w.heap.size<w1.heap.size:=hE1.lt;have hAd:=(DK hA1 hmu).mono fun e w' h=>h.one
 have k5:w.cell? ⟨p,5,none⟩=some (.bool false):=by rw [<-hdn];exact h.cur.blk.cell 5
 have k5x:(w.alloc (.cells #[.slice none 0 0,.slice none 0 0] 41)).cell? ⟨p,5,none⟩=some (.bool false):=by rw [<-hdn,<-hw1];exact hA1.cur.blk.cell 5
 have HH:=lH (aI h (aI hA1 (aI hE1 hb1)));have HW1:=lH hw1
 obtain ⟨R,HR⟩:∃ R,Hid (iK t 110000 s=R):=⟨_,lH rfl⟩
 rw [HR.out] at hAd;have HDN:=lH hdn
 have hRd:∀ x s',R=.ok (some x,s')->s'.done=false:=fun x s' e=>by rw [j7 (HR.out.trans e)];exact hdn
 obtain ⟨R0,HR0⟩:∃ R0,Hid (iS t s=R0):=⟨_,lH rfl⟩
 rw [HR0.out];clear h hA1 hE1 hw1 hb1 hdn;go_enter Tryz.func17,Tryz.ntmps17
 go_wp2_with (first
  | (
   rw [<-HW1.out];go_at_call 32;refine hAd.mono ?_;rintro e w2 ⟨a1,m1,k1,a2,m2,k2,ok,v,kk,rfl,hF2,hP2⟩;obtain ⟨cs,hcs,h6⟩:=hP2.2.1;have q5:w2.cell? ⟨p,5,none⟩=cs[5]?:=hcs.cell 5;have q5e:cs[5]?=some (cs[5]'(by omega)):=Array.getElem?_eq_getElem (by omega);rw [q5e] at q5;have f5:w2.frozen? ⟨p,5,none⟩=false:=hcs.frozen 5;have HQ:=lH (aI hP2 hcs);have hp2:=hcs.lt
   clear hP2 hcs q5e))
 have hN4:=HQ.out.1.done hRd
 have hs2:(w2.setCell ⟨p,5,none⟩ (.bool (!ok))).heap.size=w2.heap.size:=by simp [World.setCell]
 have hb4:Below (w2.setCell ⟨p,5,none⟩ (.bool (!ok))).heap.size (w2.setCell ⟨p,5,none⟩ (.bool (!ok))) ((w2.setCell ⟨p,5,none⟩ (.bool (!ok))).alloc (.cells #[.slice a1 m1 k1,.slice a2 m2 k2] 41)):=(bR _ _).alloc (nR _) _;have hN4:=hN4.below hb4
 have hL4:aa ((w2.setCell ⟨p,5,none⟩ (.bool (!ok))).alloc (.cells #[.slice a1 m1 k1,.slice a2 m2 k2] 41)) w2.heap.size 41 #[.slice a1 m1 k1,.slice a2 m2 k2]:=by rw [<-hs2];exact aa.new _ _ _
 have hF4:Fr (RW p A) w1 ((w2.setCell ⟨p,5,none⟩ (.bool (!ok))).alloc (.cells #[.slice a1 m1 k1,.slice a2 m2 k2] 41)):=(hF2.trans (aT (.inl rfl))).trans (Fr.of_below hb4);have hE4:dX w1.heap.size ((w2.setCell ⟨p,5,none⟩ (.bool (!ok))).alloc (.cells #[.slice a1 m1 k1,.slice a2 m2 k2] 41)) kk v:=(HQ.out.1.1.fr (X:=fun k=>k=p) (aT rfl) (fun r hr _ e=>by have e:r=p:=e;omega)).keep fun r _ hl=>hb4.block r hl;have hg4:ay ((w2.setCell ⟨p,5,none⟩ (.bool (!ok))).alloc (.cells #[.slice a1 m1 k1,.slice a2 m2 k2] 41)):=gI HH.out.2.1.g hF4 (fun e=>by have:=RW.lo HH.out.2.1.cur 0 e;have:=HH.out.2.1.pw;omega)
 have hr4:aa ((w2.setCell ⟨p,5,none⟩ (.bool (!ok))).alloc (.cells #[.slice a1 m1 k1,.slice a2 m2 k2] 41)) w.heap.size 41 #[.slice none 0 0,.slice none 0 0]:=HH.out.2.2.1.fr hF4 (fun e=>by
  rcases e with e | ⟨ad,e1,e2⟩
  ·omega
  ·have:=hAl ad e1;omega)
 have h12:w1.heap.size<=w2.heap.size:=hF2.size
 obtain ⟨w4,hw4⟩:∃ w4,(w2.setCell ⟨p,5,none⟩ (.bool (!ok))).alloc (.cells #[.slice a1 m1 k1,.slice a2 m2 k2] 41)=w4:=⟨_,rfl⟩
 rw [hw4] at hN4 hL4 hF4 hE4 hg4 hr4 ⊢;clear hw4 hb4
 obtain ⟨e8,he8⟩:∃ e8,w2.heap.size=e8:=⟨_,rfl⟩
 rw [he8] at hL4 ⊢;have hFa:=fun op=>ed op (w:=w4.drew) (hE4.keep (w':=w4.drew) fun r _ _=>rfl) (show ay w4.drew from hg4);have s0:w4.drew.cell? ⟨e8,0,none⟩=some (.slice a1 m1 k1):=hL4.cell 0;have s1x:w4.drew.cell? ⟨e8,1,none⟩=some (.slice a2 m2 k2):=hL4.cell 1;refine bB 6 (fun W=>W.cell? ⟨e8,0,none⟩=some (.slice a1 m1 k1)/\W.cell? ⟨e8,1,none⟩=some (.slice a2 m2 k2)) (⟨s0,s1x⟩) (fun hHeld hTl=>?_);refine ae 0 hTl hHeld (fun hTl=>?_)
 try simp only [pT]
 refine ae 1 hTl hHeld (fun hTl=>?_)
 try simp only [pT]
 refine ae 2 hTl hHeld (fun hTl=>?_)
 try simp only [pT]
 refine sP 3 (hFa ⟨#[112,114,101,118]⟩) ?_
 rintro e w5 ⟨v5,rfl,hv5,hb5⟩;have hb5:Below w4.heap.size w4 w5:=((bR _ w4).drew).trans hb5;have hL5:=hL4.below hb5 hL4.lt;have hr5:=hr4.below hb5 hr4.lt;have hN5:=hN4.below hb5;have hL9x:∀ cs,aa (w5.setRow w.heap.size cs) e8 41 #[.slice a1 m1 k1,.slice a2 m2 k2]:=fun cs=>hL5.fr (fS _ _ _) (fun e=>by have e:e8=w.heap.size:=e;omega)
 refine ⟨_,rfl,(fun _=>⟨hL5.cell 0,hL5.cell 1⟩),?_⟩
 try simp only [pT]
 refine aA 4 (fun K hK=>?_);refine au rfl 41 (.tmp 2) (.tmp 30) rfl w.heap.size _ rfl rfl 41 _ hr5 (by kernel_rfl) rfl (by simp [Value.oneCell']) ?_
 skip
 refine hK.out _ _ (fun _=>⟨(hL9x _).cell 0,(hL9x _).cell 1⟩) ?_;clear hK K
 try simp only [pT]
 refine aA 5 (fun K hK=>?_);go_simp;refine hK.out _ _ (fun _=>⟨(hL9x _).cell 0,(hL9x _).cell 1⟩) ?_;clear hK K
 try simp only [pT]
 refine az 6 (fun K hK=>?_);go_simp;refine hK.out _ _ ?_;clear hK K
 try simp only [pT]
 refine cW ?_ _
 go_wp2_with fail
 refine bodyPost_ret (aG rfl _ _ w.heap.size 41 _ (0,0) _ rfl (setRow_heap _ _ _ _ _ _ hr5) Tryz.underlying41 rfl (by kernel_rfl)) rfl ?_;have hN9:=hN5.slices hr5 bU (fS _ w.heap.size #[.slice a1 m1 k1,.slice a2 m2 k2]) (by omega) (fun ad e=>by have:=hAl ad e;omega) hs1;have hF9:∀ cs,Fr (RW p A) w (w5.setRow w.heap.size cs):=fun cs=>(((Fr.of_below HH.out.2.2.2).trans hF4).trans (Fr.of_below hb5)).late (fS _ w.heap.size _) (fun k hk e=>by have e:k=w.heap.size:=e;omega);have hE5:cm w.heap.size (w5.setRow w.heap.size #[.slice a1 m1 k1,.slice a2 m2 k2]) ⟨#[112,114,101,118]⟩ ⟨#[]⟩ kk v5:=(hv5.fr (fS _ w.heap.size _) (fun r hr e=>by have e:r=w.heap.size:=e;have hr:w4.heap.size<=r:=hr;have:=hr4.lt;omega)).lo (Nat.le_of_lt hr4.lt);have hP2:=HQ.out.1.2.2
 have hnx:iS t s=match (generalizing:=false) R with
  | .error e=>(.error e,{s with done:=true})
  | .ok (none,c')=>(.ok none,{c' with done:=true})
  | .ok (some x,c')=>(.ok (some x),c'):=by
  unfold iS;rw [if_neg (by rw [HDN.out];decide),HR.out]
  rcases R with k | ⟨_ | x,s'⟩ <;> rfl
 rw [<-HR0.out,hnx];clear hFa hnx
 rcases R with k | ⟨_ | ⟨key,val⟩,s'⟩
 ·obtain ⟨⟨rfl,rfl,rfl,rfl,rfl,rfl⟩,rfl,hD⟩:=hN9;obtain ⟨_,_,rfl,hk⟩:=hP2;exact ⟨⟨_,rfl,hk,hE5,hD⟩,hF9 _⟩
 ·obtain ⟨⟨rfl,rfl,rfl,rfl,rfl,rfl⟩,rfl,hD⟩:=hN9;obtain ⟨_,_,rfl⟩:=hP2
  rcases hE5 with ⟨_,rfl⟩ | ⟨h9,_⟩
  ·exact ⟨⟨rfl,hD⟩,hF9 _⟩
  ·exact absurd rfl h9
 ·obtain ⟨rfl,rfl,rfl,hl,hr9,A',cc',l',hC,hA',hN⟩:=hN9;obtain ⟨_,_,_,rfl,_⟩:=hP2
  rcases hE5 with ⟨_,rfl⟩ | ⟨h9,_⟩
  ·exact ⟨⟨a1,k1,a2,k2,rfl,hl,hr9,A',cc',l',hC,fun a e=>(hA' a e).imp id (fun h=>by omega),hN⟩,hF9 _⟩
  ·exact absurd rfl h9
theorem CW.mu {Z:Nat->Prop} {ty B p T:Nat} {w:World} {A:Option Addr} {cc:Nat} {kA:Option Addr} {kc:Nat} {l:List LX} {s:SW} (h:CW Z ty B p T w A cc kA kc l s):mu s<110000:=by
 have h1:=h.len;have h2:=h.few;unfold Proofs.YtgohffhoapkeaaaGreatDoor.mu;omega
def Z0:Nat->Prop:=fun _=>False
def Ik (ty T:Nat) (op:ByteArray) (w:World) (r:Except Int SW) (e:Ending) (w':World):Prop:=(match r with
 | .error k=>∃ v,e=.returned (.tuple #[.pointer none,v])/\k≠0/\cm w.heap.size w' op ⟨#[]⟩ k v
 | .ok s'=>∃ p A' cc' kA kc l',e=.returned (.tuple #[.pointer (some ⟨p,0,none⟩),.nilIface])/\CW Z0 ty w.heap.size p T w' A' cc' kA kc l' s'/\s'.done=false)/\Below w.heap.size w w'
def nV:SW:=⟨[],[],false,0,false⟩
theorem DN {X:Nat->Prop} {w:World} {T M:Nat} {t:PT} (h:TX X w T M t) (hX:∀ k,X k->k<w.heap.size) (ok:t.OK) (hg:ay w) (htab:aH w) {tA:Option Addr} (tc:Nat) {key:List UInt8} (hkey:Reads w w.heap.size 1 tA key.length (bl key)) (hkl:key.length<=3000000) :
 Calls Tryz.prog 14 #[.pointer (some ⟨T,0,none⟩),.slice tA key.length tc] w fun e w'=>Ik 75 T ⟨#[110,101,119]⟩ w (Fb t key) e w':=by
 obtain ⟨w1,hw1⟩:∃ w1,w1=w.alloc (.cells #[.pointer (some ⟨T,0,none⟩),.slice none 0 0,.slice none 0 0,.bool false,.int .i64 0,.bool false] 75):=⟨_,rfl⟩
 have hb1:Below w.heap.size w w1:=by rw [hw1];exact (bR _ w).alloc (nR _) _
 have hB1:aa w1 w.heap.size 75 #[.pointer (some ⟨T,0,none⟩),.slice none 0 0,.slice none 0 0,.bool false,.int .i64 0,.bool false]:=by rw [hw1];exact aa.new _ _ _
 have hlt:w.heap.size<w1.heap.size:=hB1.lt
 have hC1:CW Z0 75 w.heap.size w.heap.size T w1 none 0 none 0 [] nV:=⟨hB1,nR _,CR.nil _ _ _ _,⟨rfl,fun h9=>absurd h9 (by decide)⟩,fun h9=>absurd rfl h9,rfl,by decide,by decide,fun x hx=>(by cases hx),fun _ h=>h.elim⟩
 have hE1:aR Z0 75 w.heap.size w.heap.size T M X w1 t none 0 none 0 [] nV:=⟨h.keep (co.of_below hb1),hX,ok,ai hg hb1,aw htab hb1,dQ htab,hC1⟩
 have hHd:=wB hE1.tx;have hfr:=fun a b c d W=>sF a b c d W;unfold zW at hHd;have hroot:=ok.head;have hk1:∀ W,Below w1.heap.size w1 W->Reads W W.heap.size 1 tA key.length (bl key):=fun W hW=>rM (hkey.below (hb1.trans (hW.mono hb1.size))) (hb1.trans (hW.mono hb1.size)).size
 have hEn:=fun W (hW:Below w1.heap.size w1 W)=>qO (hE1.next (Fr.of_below hW) (hC1.below hW)) t.root (by omega) tc (hk1 W hW) (fun h0 ad e hh=>by
  have h9:=my hkey h0 ad e
  rcases hh with hh | ⟨a,e9,_⟩
  ·omega
  ·cases e9) hkl
 have hnw:Fb t key=bk t 21 nV t.root key:=rfl;rw [hnw]
 obtain ⟨R,HR⟩:∃ R,Hid (bk t 21 nV t.root key=R):=⟨_,lH rfl⟩
 rw [HR.out] at hEn ⊢;have HW1:=lH hw1;have HE:=lH (aI hEn (aI hE1 hb1));clear h hX hkey hg htab hw1 hB1 hC1 hE1 hEn hk1 hnw hb1
 cases R with
 | error k =>
  go_enter Tryz.func14,Tryz.ntmps14
  go_wp2_with (first
   | (rw [<-HW1.out];go_at_call 29;refine hHd.mono ?_;rintro e w2 ⟨rfl,hb2⟩;have hEn2:=HE.out.1 _ hb2)
   | (
    go_at_call 28;refine hEn2.mono ?_;rintro e w3 ⟨⟨v,cs,rfl,hk,hv,hcs,h6⟩,hF3⟩
    have hvv:∃ tv pe,v=.iface tv pe:=(by rcases hv with ⟨h9,_⟩ | ⟨_,e9⟩ | ⟨_,r,op,nm,e9,_⟩;exact absurd h9 hk;exact ⟨_,_,e9⟩;exact ⟨_,_,e9⟩)
    obtain ⟨tv,pe,rfl⟩:=hvv;have hF13:Fr (RW w.heap.size none) w1 w3:=(Fr.of_below hb2).trans hF3;have hg3:=gI HE.out.2.1.g hF13 (fun e=>by have:=RW.lo HE.out.2.1.cur 0 e;have:=HE.out.2.1.pw;omega)
    have hFa:=fun op=>ed op hv hg3)
   | (go_at_call 25;refine (hFa _).mono ?_;rintro e w4 ⟨v4,rfl,hv4,hb4⟩))
  go_ret2
  have hb3:Below w.heap.size w w3:=HE.out.2.2.trans (hF13.below (Nat.le_of_lt hlt) (fun k e=>by
   rcases e with e | ⟨ad,e1,_⟩
   ·omega
   ·cases e1))
  exact ⟨⟨_,rfl,hk,hv4.lo hb3.size⟩,hb3.trans (hb4.mono hb3.size)⟩
 | ok s' =>
  go_enter Tryz.func14,Tryz.ntmps14
  go_wp2_with (first
   | (rw [<-HW1.out];go_at_call 29;refine hHd.mono ?_;rintro e w2 ⟨rfl,hb2⟩;have hEn2:=HE.out.1 _ hb2)
   | (go_at_call 28;refine hEn2.mono ?_;rintro e w3 ⟨⟨rfl,A7,c7,l7,hC7,hAR7⟩,hF3⟩))
  go_ret2;have hF13:Fr (RW w.heap.size none) w1 w3:=(Fr.of_below hb2).trans hF3
  exact ⟨⟨_,A7,c7,none,0,l7,rfl,hC7,jw HR.out⟩,HE.out.2.2.trans (hF13.below (Nat.le_of_lt hlt) (fun k e=>by
   rcases e with e | ⟨ad,e1,_⟩
   ·omega
   ·cases e1))⟩
theorem wE {X:Nat->Prop} {w:World} {T M:Nat} {t:PT} (h:TX X w T M t) (hX:∀ k,X k->k<w.heap.size) (ok:t.OK) (hg:ay w) (htab:aH w) {tA:Option Addr} (tc:Nat) {key:List UInt8} (hkey:Reads w w.heap.size 1 tA key.length (bl key)) (hkl:key.length<=3000000) :
 Calls Tryz.prog 16 #[.pointer (some ⟨T,0,none⟩),.slice tA key.length tc] w fun e w'=>Ik 81 T ⟨#[98,101,102,111,114,101]⟩ w (oM t key) e w':=by
 obtain ⟨w1,hw1⟩:∃ w1,w1=w.alloc (.cells #[.pointer (some ⟨T,0,none⟩),.slice none 0 0,.slice none 0 0,.bool false,.int .i64 0,.bool false] 81):=⟨_,rfl⟩
 have hb1:Below w.heap.size w w1:=by rw [hw1];exact (bR _ w).alloc (nR _) _
 have hB1:aa w1 w.heap.size 81 #[.pointer (some ⟨T,0,none⟩),.slice none 0 0,.slice none 0 0,.bool false,.int .i64 0,.bool false]:=by rw [hw1];exact aa.new _ _ _
 have hlt:w.heap.size<w1.heap.size:=hB1.lt
 have hC1:CW Z0 81 w.heap.size w.heap.size T w1 none 0 none 0 [] nV:=⟨hB1,nR _,CR.nil _ _ _ _,⟨rfl,fun h9=>absurd h9 (by decide)⟩,fun h9=>absurd rfl h9,rfl,by decide,by decide,fun x hx=>(by cases hx),fun _ h=>h.elim⟩
 have hE1:aR Z0 81 w.heap.size w.heap.size T M X w1 t none 0 none 0 [] nV:=⟨h.keep (co.of_below hb1),hX,ok,ai hg hb1,aw htab hb1,dQ htab,hC1⟩
 have hHd:=wB hE1.tx;have hfr:=fun a b c d W=>sF a b c d W;unfold zW at hHd;have hroot:=ok.head;have hk1:∀ W,Below w1.heap.size w1 W->Reads W W.heap.size 1 tA key.length (bl key):=fun W hW=>rM (hkey.below (hb1.trans (hW.mono hb1.size))) (hb1.trans (hW.mono hb1.size)).size
 have hEn:=fun W (hW:Below w1.heap.size w1 W)=>qP (hE1.next (Fr.of_below hW) (hC1.below hW)) t.root (by omega) tc (hk1 W hW) (fun h0 ad e hh=>by
  have h9:=my hkey h0 ad e
  rcases hh with hh | ⟨a,e9,_⟩
  ·omega
  ·cases e9) hkl
 have hnw:oM t key=bm t 21 nV t.root key:=rfl;rw [hnw]
 obtain ⟨R,HR⟩:∃ R,Hid (bm t 21 nV t.root key=R):=⟨_,lH rfl⟩
 rw [HR.out] at hEn ⊢;have HW1:=lH hw1;have HE:=lH (aI hEn (aI hE1 hb1));clear h hX hkey hg htab hw1 hB1 hC1 hE1 hEn hk1 hnw hb1
 cases R with
 | error k =>
  go_enter Tryz.func16,Tryz.ntmps16
  go_wp2_with (first
   | (rw [<-HW1.out];go_at_call 29;refine hHd.mono ?_;rintro e w2 ⟨rfl,hb2⟩;have hEn2:=HE.out.1 _ hb2)
   | (
    go_at_call 31;refine hEn2.mono ?_;rintro e w3 ⟨⟨v,cs,rfl,hk,hv,hcs,h6⟩,hF3⟩
    have hvv:∃ tv pe,v=.iface tv pe:=(by rcases hv with ⟨h9,_⟩ | ⟨_,e9⟩ | ⟨_,r,op,nm,e9,_⟩;exact absurd h9 hk;exact ⟨_,_,e9⟩;exact ⟨_,_,e9⟩)
    obtain ⟨tv,pe,rfl⟩:=hvv;have hF13:Fr (RW w.heap.size none) w1 w3:=(Fr.of_below hb2).trans hF3;have hg3:=gI HE.out.2.1.g hF13 (fun e=>by have:=RW.lo HE.out.2.1.cur 0 e;have:=HE.out.2.1.pw;omega)
    have hFa:=fun op=>ed op hv hg3)
   | (go_at_call 25;refine (hFa _).mono ?_;rintro e w4 ⟨v4,rfl,hv4,hb4⟩))
  go_ret2
  have hb3:Below w.heap.size w w3:=HE.out.2.2.trans (hF13.below (Nat.le_of_lt hlt) (fun k e=>by
   rcases e with e | ⟨ad,e1,_⟩
   ·omega
   ·cases e1))
  exact ⟨⟨_,rfl,hk,hv4.lo hb3.size⟩,hb3.trans (hb4.mono hb3.size)⟩
 | ok s' =>
  go_enter Tryz.func16,Tryz.ntmps16
  go_wp2_with (first
   | (rw [<-HW1.out];go_at_call 29;refine hHd.mono ?_;rintro e w2 ⟨rfl,hb2⟩;have hEn2:=HE.out.1 _ hb2)
   | (go_at_call 31;refine hEn2.mono ?_;rintro e w3 ⟨⟨rfl,A7,c7,l7,hC7,hAR7⟩,hF3⟩))
  go_ret2;have hF13:Fr (RW w.heap.size none) w1 w3:=(Fr.of_below hb2).trans hF3
  exact ⟨⟨_,A7,c7,none,0,l7,rfl,hC7,jx HR.out⟩,HE.out.2.2.trans (hF13.below (Nat.le_of_lt hlt) (fun k e=>by
   rcases e with e | ⟨ad,e1,_⟩
   ·omega
   ·cases e1))⟩
def Fh (x:SL):Nat:=((x.l.length:Int)-x.next+1).toNat
def qW (s:SW):Nat:=(513-s.pages)*123+(s.way.map Fh).sum
def SW.fine (s:SW):Prop:=∀ x∈s.way,x.l.length<=120/\0<=x.next/\x.next<=x.l.length
theorem sH {t:PT} {lo:Key} {c':SW}:∀ {f n:Nat} {c:SW},bk t f c n lo=.ok c'->c.fine->c'.fine/\qW c'<=qW c
 | 0,n,c,h,_=>by cases h
 | f+1,n,c,h,hc=>by
  unfold bk at h
  split at h
  ·cases h
  ·rename_i x hx;have hp:=qN hx;have hm:=(lk hp.2.2.1).1
   have hstep:∀ b (nx:Int),0<=nx->nx<=(x.cells.length:Int)->(c.push ⟨b,x.cells,nx⟩).fine/\qW (c.push ⟨b,x.cells,nx⟩)<=qW c:=fun b nx h1 h2=>by
    refine ⟨fun y hy=>?_,?_⟩
    ·rcases List.mem_append.1 hy with hy | hy
     ·exact hc y hy
     ·rw [List.mem_singleton.1 hy];exact ⟨hm,h1,h2⟩
    ·unfold qW SW.push Fh;simp only [List.map_append,List.map_cons,List.map_nil,List.sum_append,List.sum_cons,List.sum_nil];have:=hp.1;omega
   split at h
   ·cases h
    refine hstep true _ (by omega) ?_;have:ct x.cells lo<=x.cells.length:=List.countP_le_length;omega
   ·have h1:=qL x.cells lo;rename_i hk;have hne:x.cells.length≠0:=(gP (qK hp.2.2.1) hp.2.2.2.symm).1 (by rcases hp.2.2.2 with h | h;exact absurd h hk;exact h);obtain ⟨h2,h3⟩:=hstep false (((nQ x.cells lo-1:Nat):Int)+1) (by omega) (by omega);obtain ⟨h4,h5⟩:=sH h h2;exact ⟨h4,nT h5 h3⟩
theorem qQ {c:SW} {s:SL} (hs:c.way.getLast?=some s):∃ A,c.way=A++[s]:=by
 rcases List.eq_nil_or_concat c.way with h | ⟨A,y,h⟩
 ·rw [h] at hs;cases hs
 ·rw [List.concat_eq_append] at h;rw [h] at hs;simp at hs;subst hs;exact ⟨A,h⟩
theorem mu_step {c:SW} {s:SL} {n:Int} (hs:c.way.getLast?=some s) (hn:s.next<n) (h2:n<=s.l.length) (hc:c.fine):(c.step {s with next:=n}).fine/\qW (c.step {s with next:=n})<qW c:=by
 obtain ⟨A,hA⟩:=qQ hs;have hsf:=hc s (by rw [hA];simp);unfold SW.step SW.fine qW;rw [hA];refine ⟨fun y hy=>?_,?_⟩
 ·simp only [List.dropLast_concat] at hy
  rcases List.mem_append.1 hy with hy | hy
  ·exact hc y (by rw [hA];exact List.mem_append_left _ hy)
  ·rw [List.mem_singleton.1 hy];exact ⟨hsf.1,by show 0<=n;omega,h2⟩
 ·simp only [List.dropLast_concat,List.map_append,List.map_cons,List.map_nil,List.sum_append,List.sum_cons,List.sum_nil,Fh];omega
theorem GK {c:SW} {s:SL} (hs:c.way.getLast?=some s) (hc:c.fine):c.pop.fine/\qW c.pop<qW c:=by
 obtain ⟨A,hA⟩:=qQ hs;have hsf:=hc s (by rw [hA];simp);unfold SW.pop SW.fine qW;rw [hA];simp only [List.dropLast_concat];refine ⟨fun y hy=>hc y (by rw [hA];exact List.mem_append_left _ hy),?_⟩;simp only [List.map_append,List.map_cons,List.map_nil,List.sum_append,List.sum_cons,List.sum_nil,Fh];omega
theorem uA {t:PT} {x:eS} {c':SW}:∀ {f:Nat} {c:SW},iI t f c=.ok (some x,c')->c.fine->c'.fine/\qW c'<qW c
 | 0,c,h,_=>by cases h
 | f+1,c,h,hc=>by
  unfold iI at h
  split at h
  ·cases h
  ·rename_i s hs
   split at h
   ·obtain ⟨h1,h2⟩:=GK hs hc;obtain ⟨h3,h4⟩:=uA h h1;exact ⟨h3,Nat.lt_trans h4 h2⟩
   ·rename_i y hy;have hmem:s∈c.way:=List.mem_of_getLast? hs;have hsf:=hc s hmem;have hlt:s.next.toNat<s.l.length:=(lS.1 hy).1;obtain ⟨h1,h2⟩:=mu_step (n:=s.next+1) hs (by omega) (by omega) hc
    split at h
    ·split at h
     ·cases h
     ·rename_i r hr
      cases h
      unfold eD at hr
      split at hr
      ·cases hr
      ·split at hr
       ·cases hr
       ·cases hr;exact ⟨h1,h2⟩
    ·split at h
     ·cases h
     ·rename_i c2 hc2;obtain ⟨h3,h4⟩:=sH hc2 h1;obtain ⟨h5,h6⟩:=uA h h3;exact ⟨h5,by omega⟩
theorem wF {t:PT} {x:eS} {c c':SW} (h:ia t c=(.ok (some x),c')) (hc:c.fine):c'.fine/\qW c'<qW c/\c'.done=c.done:=by
 unfold ia at h
 split at h
 ·cases h
 ·split at h
  ·cases h
  ·cases h
  ·rename_i y c2 hy
   cases h
   obtain ⟨h1,h2⟩:=uA hy hc;exact ⟨h1,h2,jZ hy⟩
theorem CW.fine {Z:Nat->Prop} {B p T:Nat} {w:World} {A:Option Addr} {cc:Nat} {kA:Option Addr} {kc:Nat} {l:List LX} {s:SW} (h:CW Z 75 B p T w A cc kA kc l s):s.fine:=fun x hx=>by
 rw [<-h.way] at hx;obtain ⟨y,hy,rfl⟩:=List.mem_map.1 hx;have h1:=h.rows.lv y hy;refine ⟨?_,(h.dir y hy).1 rfl,?_⟩
 ·show (y.l.map CX.c).length<=120;rw [List.length_map];exact h1.many
 ·show y.next<=((y.l.map CX.c).length:Int);rw [List.length_map];exact h1.hi
def Hf (W:World) (g:Nat):Nat->Nat
 | 0=>0
 | n+1=>Hf W g n+(match W.cell? ⟨g,n*3+1,none⟩,W.cell? ⟨g,n*3+2,none⟩ with
  | some (.slice _ len _),some (.int _ nx)=>((len:Int)-nx+1).toNat
  | _,_=>0)
def muW (p:Nat) (W:World):Nat:=match W.cell? ⟨p,1,none⟩,W.cell? ⟨p,4,none⟩ with
 | some (.slice (some a) n _),some (.int _ g)=>(513-g.toNat)*123+Hf W a.block n
 | some (.slice none _ _),some (.int _ g)=>(513-g.toNat)*123
 | _,_=>0
theorem mB:∀ {l:List LX} {k:Nat} {s:LX},l[k]?=some s->∀ j u,s.vals[j]?=some u->(fu l)[k*3+j]?=some u
 | s::l,0,_,h,j,u,hu=>by
  cases h
  have hj:j<3:=(lS.1 hu).1;unfold fu;rw [List.flatMap_cons,Nat.zero_mul,Nat.zero_add,List.getElem?_append_left hj];exact hu
 | s::l,k+1,s',h,j,u,hu=>by
  have ih:=mB (l:=l) (k:=k) (by simpa using h) j u hu;unfold fu at ih ⊢;rw [List.flatMap_cons,List.getElem?_append_right (by simp [LX.vals];omega)];rw [<-ih];congr 1;simp [LX.vals];omega
theorem CW.muW {Z:Nat->Prop} {ty B p T:Nat} {w:World} {A:Option Addr} {cc:Nat} {kA:Option Addr} {kc:Nat} {l:List LX} {s:SW} (h:CW Z ty B p T w A cc kA kc l s):muW p w=qW s:=by
 have k1:w.cell? ⟨p,1,none⟩=some (.slice A l.length cc):=h.blk.cell 1;have k4:w.cell? ⟨p,4,none⟩=some (.int .i64 (s.pages:Nat)):=h.blk.cell 4;unfold Proofs.YtgohffhoapkeaaaGreatDoor.muW qW;rw [k1,k4,<-h.way]
 cases l with
 | nil =>
  cases A with
  | none=>simp
  | some a=>simp [Hf]
 | cons x l =>
  obtain ⟨g,rfl,_,_,_,_⟩:=eF h.rows.row (mB (l:=x::l) (k:=0) rfl 0 _ rfl);show (513-((s.pages:Nat):Int).toNat)*123+Hf w g (x::l).length=_
  have hl:∀ n,n<=(x::l).length->Hf w g n=((((x::l).take n).map LX.sl).map Fh).sum:=by
   intro n
   induction n with
   | zero=>intro _;rfl
   | succ n ih =>
    intro hn
    obtain ⟨y,hy⟩:∃ y,(x::l)[n]?=some y:=⟨_,gE (by omega)⟩
    obtain ⟨g1,hg1,_,_,e1,_⟩:=eF h.rows.row (mB hy 1 (.slice y.la y.l.length y.lc) rfl)
    cases hg1
    obtain ⟨g1,hg1,_,_,e2,_⟩:=eF h.rows.row (mB hy 2 (.int .i64 y.next) rfl)
    cases hg1
    have ht:(x::l).take (n+1)=(x::l).take n++[y]:=by rw [List.take_add_one,hy];rfl
    unfold Hf;rw [ih (by omega),e1,e2,ht];simp only [List.map_append,List.map_cons,List.map_nil,List.sum_append,List.sum_cons,List.sum_nil,Fh,LX.sl,List.length_map];omega
  rw [hl _ (nR _),List.take_length];simp
end
section
open Go.RowKit
variable {F:Fence} {n:Nat} {P:Program}
def Il {α:Type} (F:Fence) (n:Nat) (P:Program) (g:Nat) (lb:Array Value) (encs:α->Array Value) (G:α->World->Prop) (Kp Rt:World->World->Prop) (S Sp:List α->Prop) (N:Nat) (w:World):Prop :=
 ∀ (l:Nat) (J Jx:List α->World->Prop) (W:World),Below w.heap.size w W->(∀ s A B,J s A->Rt A B->J s B) ->
  (∀ pre x W1,G x W1->J pre W1->pre.length<N->YieldAt F (n-1) P l (encs x) W1 fun e W' =>
   (e=.returned (.bool true)/\J (pre++[x]) W'/\Kp W1 W')\/(e=.returned (.bool false)/\Jx (pre++[x]) W')) ->
  J [] W ->
  CallsIn F n P g (#[.func (.yield l) #[] #[]]++lb) W fun e W'=>(∃ v,e=.returned v)/\((∃ xs,S xs/\J xs W')\/(∃ pre,Sp pre/\Jx pre W'))
theorem ng {α:Type} {g:Operand} {ps:Array Tmp} {assign body:Code} {Q:Exit->Act->World->Prop} {a:Act} {w:World}
 (hro:F.round=none) (h1:1<=n) {gf:Nat} {lb:Array Value} (hg:a.eval g=.func (.func gf) #[] lb) (hFg:F.fn gf) (eg:∀ args w,(callFunc gf args).run P w=.ok (.enter gf args) w)
 {encs:α->Array Value} {G:α->World->Prop} {Kp Rt:World->World->Prop} {S Sp:List α->Prop} {N:Nat} {w0:World} (hseq:Il F (n-1) P gf lb encs G Kp Rt S Sp N w0)
 (hRo:∀ {A B:World},Rt A B->KeepsOthers A B)
 (hGb:∀ (x:α) (W:World) (l:Nat) (o o':Obj),w.heap.size<=l->W.heap[l]?=some o->o.isCells=false->o.isWalk=false->G x W->G x (W.putObj l o'))
 (hKt:∀ {A B C:World},Kp A B->Kp B C->Kp A C) (hKb:∀ (W:World) (l:Nat) (o o':Obj),w.heap.size<=l->W.heap[l]?=some o->o.isCells=false->o.isWalk=false->Kp W (W.putObj l o')) (hb0:Below w0.heap.size w0 w) (hps:∀ x,(encs x).size=ps.size)
 (I:List α->World->Prop) (Ix:Code->List α->World->Prop) (hI:OwnFrom w.heap.size I) (hIx:∀ c,OwnFrom w.heap.size (Ix c))
 (hIr:∀ s A B,I s A->Rt A B->I s B) (h0:I [] w) (a₁:α->Nat->Act) (ob:α->Obj) (hGa:∀ (x:α) (W:World),G x W->G x (W.alloc (ob x))) (hKa:∀ (x:α) (W:World),w.heap.size<=W.heap.size->Kp W (W.alloc (ob x)))
 (hassign:∀ (l:Nat) (x:α) (W:World) (b:Nat) (K:Act->World->Prop),W.heap.size=b->K (a₁ x b) (W.alloc (ob x)) ->
  assign.wpIn (F.inRound l) (n-1-1) P (Exit.then K (fun _ _ _=>False)) {tmps:=(ps.zip (encs x)).foldl (fun t (p,v)=>t.setIfInBounds p v) a.tmps,defers:=[]} W)
 (hbody:∀ (l:Nat) (pre:List α) (x:α) (W:World) (b:Nat),w.heap.size<=b->W.heap[b]?=some (ob x)->G x W->I pre W->pre.length<N->body.wpIn (F.inRound l) (n-1-1) P (ownPostK Kp I Ix (pre++[x]) W) (a₁ x b) W)
 (hdone:∀ (D:Nat) (xs:List α) (W:World),w.heap.size<=D->S xs->I xs W->W.heap[D]?=some (.deferred (some []))->Q .normal {a with defers:={target:=.collected D,args:=#[]} :: a.defers} W)
 (hstop:∀ (D:Nat) (c:Code) (pre:List α) (W:World),w.heap.size<=D->Sp pre->Ix c pre W->W.heap[D]?=some (.deferred (some []))->c.wpIn F n P Q {a with defers:={target:=.collected D,args:=#[]} :: a.defers} W) :
 (Code.rangeFunc g ps assign body).wpIn F n P Q a w:=by
 refine wpIn_rangeFunc ?_;intro fn hfn;rw [hro]
 obtain ⟨rec,hrec⟩:∃ rec:LoopState->Option Code->Loop,rec=fun st pe=>{state:=st,pending:=pe,fn,tmps:=a.tmps,params:=ps,assign,body,defers:=w.heap.size}:=⟨_,rfl⟩
 obtain ⟨W1,hW1⟩:∃ W1,(w.alloc (.deferred (some []))).alloc (.loop (rec .ready none))=W1:=⟨_,rfl⟩
 have hL1:W1.heap[w.heap.size+1]?=some (.loop (rec .ready none)):=by
  rw [<-hW1];have:=World.alloc_heap_new (w.alloc (.deferred (some []))) (.loop (rec .ready none));rwa [World.size_alloc] at this
 have hK1:W1.heap[w.heap.size]?=some (.deferred (some [])):=by
  rw [<-hW1];exact (Below.heap_alloc _ _ _ (by simp)).trans (World.alloc_heap_new w _)
 have hI1:I [] W1:=by rw [<-hW1];exact hI.alloc _ (hI.alloc _ h0)
 have hb1:Below w0.heap.size w0 W1:=by
  rw [<-hW1];exact hb0.trans ((((bR _ w).alloc (nR _) _).alloc (by simp) _).mono hb0.size)
 refine ⟨w.heap.size+1,[{target:=.collected w.heap.size,args:=#[]}],W1,{target:=.fn (.func gf) lb,args:=#[.func (.yield (w.heap.size+1)) #[] #[]]},W1,gf,
  #[.func (.yield (w.heap.size+1)) #[] #[]]++lb,W1,?_,?_,?_,?_,fun _=>h1,?_⟩
 ·rw [<-hW1,hrec];exact run_enterLoop_outer _ _ _ _ _
 ·simp only [resolve,hg];simp [go_sem]
 ·intro f' hf';simp [Target.leads] at hf';subst hf';exact hFg
 ·simp [invoke,go_sem,eg]
 ·
   refine (hseq (w.heap.size+1)
    (fun pre W=>I pre W/\W.heap[w.heap.size+1]?=some (.loop (rec .ready none))/\W.heap[w.heap.size]?=some (.deferred (some [])))
    (fun pre W=>∃ c,Ix c pre W/\W.heap[w.heap.size+1]?=some (.loop (rec .done (some c)))/\W.heap[w.heap.size]?=some (.deferred (some [])))
    W1 hb1
    (fun s A B hs hr=>⟨hIr s A B hs.1 hr,(hRo hr).same _ _ hs.2.1 rfl,(hRo hr).same _ _ hs.2.2 rfl⟩)
    ?_ ⟨hI1,hL1,hK1⟩).mono ?_
   ·
     rintro pre x W0 hG0 ⟨hi0,hl0,hk0⟩ hlen;have hlt0:w.heap.size+1<W0.heap.size:=(aS.1 hl0).1;have hy:=run_yield (P:=P) (args:=encs x) hl0 (by rw [hrec];exact hps x);rw [hrec] at hy;refine ⟨fn,_,assign,body,hy,roundIn_of_wpIn hfn (hassign _ x W0 _ _ rfl ?_)⟩;have hKa0:=hKa x W0 (by omega);have hb0:(W0.alloc (ob x)).heap[W0.heap.size]?=some (ob x):=World.alloc_heap_new W0 _;have hl:(W0.alloc (ob x)).heap[w.heap.size+1]?=some (.loop (rec .ready none)):=(Below.heap_alloc _ _ _ hlt0).trans hl0;have hk:(W0.alloc (ob x)).heap[w.heap.size]?=some (.deferred (some [])):=(Below.heap_alloc _ _ _ (by omega)).trans hk0;have hi:=hI.alloc (ob x) hi0;have hG:=hGa x W0 hG0
     obtain ⟨W,hW⟩:∃ W,W0.alloc (ob x)=W:=⟨_,rfl⟩
     rw [hW] at hKa0 hb0 hl hk hi hG ⊢;have hlt:w.heap.size+1<W.heap.size:=(aS.1 hl).1;refine ⟨_,run_beginRound hl (by rw [hrec]),?_⟩;have hl2:(W.putObj (w.heap.size+1) (.loop {rec .ready none with state:=.busy})).heap[w.heap.size+1]?=some (.loop {rec .ready none with state:=.busy}):=World.putObj_heap_same hlt;have hk2:(W.putObj (w.heap.size+1) (.loop {rec .ready none with state:=.busy})).heap[w.heap.size]?=some (.deferred (some [])):=(World.putObj_heap_other (by omega)).trans hk;have hw2:Kp W (W.putObj (w.heap.size+1) (.loop {rec .ready none with state:=.busy})):=hKb _ _ _ _ (by omega) hl rfl rfl;refine wpIn_mono (hbody _ pre x _ W0.heap.size (by omega) ((World.putObj_heap_other (by omega)).trans hb0) (hGb _ _ _ _ _ (by omega) hl rfl rfl hG) (hI.putObj _ hi (by omega) hl rfl) hlen) ?_
     have fin:∀ (jump:Option Code) (W3:World),KeepsOthers (W.putObj (w.heap.size+1) (.loop {rec .ready none with state:=.busy})) W3 ->
      (Instr.endRound (w.heap.size+1) jump).run P W3=.ok (.bool jump.isNone) (W3.putObj (w.heap.size+1) (.loop (rec (if jump.isNone then .ready else .done) jump))) /\
      W3.heap[w.heap.size+1]?=some (.loop {rec .ready none with state:=.busy}) /\
      (W3.putObj (w.heap.size+1) (.loop (rec (if jump.isNone then .ready else .done) jump))).heap[w.heap.size+1]?=some (.loop (rec (if jump.isNone then .ready else .done) jump)) /\
      (W3.putObj (w.heap.size+1) (.loop (rec (if jump.isNone then .ready else .done) jump))).heap[w.heap.size]?=some (.deferred (some [])):=fun jump W3 hk3=>by
      have hl3:=hk3.same _ _ hl2 rfl;have:=run_endRound (P:=P) jump hl3;rw [hrec] at this ⊢;exact ⟨this,by rw [hrec] at hl3;exact hl3,World.putObj_heap_same (aS.1 hl3).1,(World.putObj_heap_other (by omega)).trans (hk3.same _ _ hk2 rfl)⟩
     rintro e a3 W3 hp
     cases e with
     | normal =>
      obtain ⟨hk3,hkp3,hi3⟩:=hp;obtain ⟨hr,hl3,hl4,hk4⟩:=fin none W3 hk3;exact ⟨_,_,hr,.inl ⟨rfl,⟨hI.putObj _ hi3 (by omega) hl3 rfl,hl4,hk4⟩,hKt (hKt (hKt hKa0 hw2) hkp3) (hKb _ _ _ _ (by omega) hl3 rfl rfl)⟩⟩
     | ret =>
      obtain ⟨hk3,hi3⟩:=hp;obtain ⟨hr,hl3,hl4,hk4⟩:=fin (some .ret) W3 hk3;exact ⟨_,_,hr,.inr ⟨rfl,.ret,(hIx _).putObj _ hi3 (by omega) hl3 rfl,hl4,hk4⟩⟩
     | exit id =>
      obtain ⟨hk3,hi3⟩:=hp;obtain ⟨hr,hl3,hl4,hk4⟩:=fin (some (.exit id)) W3 hk3;exact ⟨_,_,hr,.inr ⟨rfl,.exit id,(hIx _).putObj _ hi3 (by omega) hl3 rfl,hl4,hk4⟩⟩
     | goto t =>
      obtain ⟨hk3,hi3⟩:=hp;obtain ⟨hr,hl3,hl4,hk4⟩:=fin (some (.goto t)) W3 hk3;exact ⟨_,_,hr,.inr ⟨rfl,.goto t,(hIx _).putObj _ hi3 (by omega) hl3 rfl,hl4,hk4⟩⟩
     | panic ch=>exact hp.elim
     | outgrown=>exact hp.elim
   ·
     rintro e W2 ⟨⟨v,rfl⟩,(⟨xs,hS,hi,hl,hk⟩ | ⟨pre,hSp,c,hi,hl,hk⟩)⟩
     ·exact ⟨none,_,by have:=run_endLoop (P:=P) hl (by rw [hrec];simp);rw [hrec] at this;exact this,hdone _ xs _ (nR _) hS (hI.putObj _ hi (by omega) hl rfl) ((World.putObj_heap_other (by omega)).trans hk)⟩
     ·exact ⟨some c,_,by have:=run_endLoop (P:=P) hl (by rw [hrec];simp);rw [hrec] at this;exact this,hstop _ c pre _ (nR _) hSp ((hIx c).putObj _ hi (by omega) hl rfl) ((World.putObj_heap_other (by omega)).trans hk)⟩
end
section
open Go.RowKit
attribute [local go_sem] Oper.semAt_some
structure EY where
 a1:Option Addr
 m1:Nat
 k1:Nat
 a2:Option Addr
 m2:Nat
 k2:Nat
 v:Value
 r:Except Int eS
def Fi (x:EY):Array Value:=#[.agg #[.slice x.a1 x.m1 x.k1,.slice x.a2 x.m2 x.k2],x.v]
def eH (W:World) (g:Nat):Prop:=∀ cs t z,W.heap[g]?≠some (.cells cs t z)
theorem oN {W:World} {l:Nat} {o:Obj} (h:W.heap[l]?=some o) (hc:o.isCells=false):eH W l:=fun cs t z e=>by
 rw [h] at e
 cases e
 cases hc
theorem eH.cell {W:World} {g:Nat} (h:eH W g) {a:Addr} {v:Value} (hv:W.cell? a=some v):¬ a.block=g:=fun e=>by
 unfold World.cell? at hv;rw [e] at hv
 split at hv
 ·rename_i cs t z hz;exact h cs t z hz
 ·cases hv
theorem wG {w:World} {B g size n:Nat} {A:Option Addr} {xs:List Value} (h:Reads w B size A n xs) (h1:0<xs.length) (hg:eH w g):∀ ad,A=some ad->¬ ad.block=g:=fun ad e hh=>by
 have h0:0<n:=by
  rcases Nat.eq_zero_or_pos n with h9 | h9
  ·have:=h.1;rw [h9,Nat.zero_mul] at this;omega
  ·exact h9
 obtain ⟨a,e1,_,h2⟩:=h.2 h0;rw [e1] at e
 cases e
 have hbk:(ad.add 0).block=ad.block:=by unfold Addr.add;split <;> rfl
 exact hg.cell (h2 0 _ (gE h1)) (hbk.trans hh)
theorem dU {w:World} {B g:Nat} {A:Option Addr} {b:List UInt8} (h:Reads w B 1 A b.length (bl b)) (hg:eH w g):b.length≠0->∀ ad,A=some ad->¬ ad.block=g:=fun h0=>wG h (by rw [aF];omega) hg
theorem CO.apart {N:Nat->Prop} {w w':World} {A:Option Addr} {l:List CX} {g:Nat} (h:CO N w A l) (hg:eH w g) (hf:Fr (fun k=>k=g) w w'):CO N w' A l:=by
 have h2:CO (fun k=>N k\/k=g) w A l:=by
  refine ⟨h.at_,fun h0 ad e hh=>?_,fun y hy h0 ad e hh=>?_,fun y hy h0 ad e hh=>?_⟩
  ·rcases hh with hh | hh
   ·exact h.ra h0 ad e hh
   ·rcases h.at_.row with h1 | ⟨g1,o,e1,hg1,hc⟩
    ·exact h0 h1
    ·rw [e1] at e
     cases e
     cases l with
     | nil=>exact h0 rfl
     | cons y l=>exact hg.cell (hc 0 y rfl 1 _ rfl) hh
  ·exact hh.elim (h.ka y hy h0 ad e) (dU (h.at_.key y hy) hg h0 ad e)
  ·exact hh.elim (h.va y hy h0 ad e) (dU (h.at_.val y hy) hg h0 ad e)
 exact (h2.fr hf (fun k e=>.inr e)).mono (fun k _ hk=>.inl hk)
theorem CW.apart {Z:Nat->Prop} {ty B p T:Nat} {w w':World} {A:Option Addr} {cc:Nat} {kA:Option Addr} {kc:Nat} {l:List LX} {s:SW} {g:Nat} (h:CW Z ty B p T w A cc kA kc l s) (hg:eH w g) (hf:Fr (fun k=>k=g) w w'):CW Z ty B p T w' A cc kA kc l s:=by
 have hp:¬ p=g:=fun e=>by subst e;exact hg _ _ _ h.blk
 refine ⟨h.blk.fr hf hp,h.lo,⟨fB h.rows.row (fun ad e=>hf.block ad.block (h.rows.lo_row ad e).2 (fun e2=>?_)),fun s hs2=>⟨(h.rows.lv s hs2).cells.apart hg hf,(h.rows.lv s hs2).many,(h.rows.lv s hs2).fit,(h.rows.lv s hs2).lo,(h.rows.lv s hs2).hi⟩,h.rows.sep⟩,ax h.key hf (dU h.key hg),h.keyN,h.way,h.few,h.pg,h.dir,fun k hk=>lT (h.zlt k hk) hf.size⟩
 rcases h.rows.row.2 with ⟨h0,_⟩ | ⟨g1,cap,cur,e1,_,e3,_⟩
 ·rw [e] at h0;cases h0
 ·rw [e] at e1;have e1:=(Value.slice.injEq .. ▸ e1:some ad=_/\_).1
  cases e1
  have e2:g1=g:=e2;subst e2;exact hg _ _ _ e3
theorem wH {X:Nat->Prop} {A B:World} (h:Fr X A B) (hc:∀ k,X k->∃ cs t z,A.heap[k]?=some (.cells cs t z)):KeepsOthers A B :=
 ⟨h.size,fun j o hj ho=>by
  have hl:=(aS.1 hj).1
  rw [h.block j hl (fun hx=>by
   obtain ⟨cs,t,z,e⟩:=hc j hx;rw [hj] at e
   cases e
   cases ho)]
  exact hj⟩
theorem CW.cells {Z:Nat->Prop} {ty B p T:Nat} {w:World} {A:Option Addr} {cc:Nat} {kA:Option Addr} {kc:Nat} {l:List LX} {s:SW} (h:CW Z ty B p T w A cc kA kc l s):∀ k,RW p A k->∃ cs t z,w.heap[k]?=some (.cells cs t z):=by
 rintro k (rfl | ⟨ad,e,rfl⟩)
 ·exact ⟨_,_,_,h.blk⟩
 ·rcases h.rows.row.2 with ⟨h0,_⟩ | ⟨g1,cap,cur,e1,_,e3,_⟩
  ·rw [e] at h0;cases h0
  ·rw [e] at e1;have e1:=(Value.slice.injEq .. ▸ e1:some ad=_/\_).1
   cases e1
   exact ⟨_,_,_,e3⟩
theorem DO {s:SW} (h:s.fine) (hl:s.way.length<=20):qW s<110000:=by
 have hs:∀ l:List SL,(∀ x∈l,x.l.length<=120/\0<=x.next/\x.next<=x.l.length)->(l.map Fh).sum<=122*l.length:=by
  intro l
  induction l with
  | nil=>intro _;simp
  | cons x l ih =>
   intro hl;have h1:=ih fun y hy=>hl y (List.mem_cons_of_mem _ hy);have h2:=hl x (List.mem_cons_self ..)
   have h3:Fh x<=122:=by unfold Fh;omega
   simp only [List.map_cons,List.sum_cons,List.length_cons];omega
 have:=hs s.way h;unfold qW;omega
def gJ (t:PT):Nat->SW->List (Except Int eS)
 | 0,_=>[]
 | f+1,c=>match ia t c with
  | (.error e,_)=>[.error e]
  | (.ok none,_)=>[]
  | (.ok (some x),c')=>.ok x::gJ t f c'
def GY (H:Nat) (x:EY) (W:World):Prop:=match x.r with
 | .error k=>k≠0/\cm H W ⟨#[110,101,120,116]⟩ ⟨#[]⟩ k x.v
 | .ok (key,val)=>x.v=.nilIface/\x.m1=key.length/\x.m2=val.length/\Reads W W.heap.size 1 x.a1 key.length (bl key)/\Reads W W.heap.size 1 x.a2 val.length (bl val)
structure Hg (Z:Nat->Prop) (H:Nat) (A B:World):Prop where
 os:B.os=A.os
 tape:B.tape=A.tape
 output:B.output=A.output
 size:A.heap.size<=B.heap.size
 keep:∀ k,k<A.heap.size->(Z k\/k<H)->B.heap[k]?=A.heap[k]?
 others:KeepsOthers A B
def Ji (Z:Nat->Prop) (H p T M:Nat) (X:Nat->Prop) (t:PT) (bx:Nat) (A B:World):Prop:=B.heap[bx]?=A.heap[bx]?/\A.heap.size<=B.heap.size/\∀ A1 cc kA kc l s,aR Z 75 H p T M X A t A1 cc kA kc l s->aR Z 75 H p T M X B t A1 cc kA kc l s
theorem Hg.of {Z:Nat->Prop} {H p T:Nat} {w w1:World} {A:Option Addr} {cc:Nat} {kA:Option Addr} {kc:Nat} {l:List LX} {s:SW} (h:CW Z 75 H p T w A cc kA kc l s) (hZ:∀ k,Z k->¬ RW p A k) (hf:Fr (RW p A) w w1) (o:Obj):Hg Z H w (w1.alloc o):=by
 have hlo:=RW.lo h;have hf2:=hf.alloc o;refine ⟨hf2.os,hf2.tape,hf2.output,hf2.size,fun k hk hz=>hf2.block k hk (fun hx=>?_),wH hf2 h.cells⟩
 rcases hz with hz | hz
 ·exact hZ k hz hx
 ·have:=hlo k hx;omega
theorem Im {Z:Nat->Prop} {H p T M:Nat} {X:Nat->Prop} {w:World} {t:PT} {A:Option Addr} {cc:Nat} {kA:Option Addr} {kc:Nat} {l:List LX} {s:SW} (m:Nat) (hm:1<=m) (bx:Nat) (h:aR Z 75 H p T M X w t A cc kA kc l s) (hd:s.done=false) (hZR:∀ k,Z k->¬ RW p A k) (hbx:aa w bx 43 #[.func (.func 15) #[.pointer (some ⟨p,0,none⟩)] #[]]) (hbZ:Z bx) :
 Il Fence.wide m Tryz.prog 45 #[.pointer (some ⟨bx,0,none⟩)] Fi (GY H) (Ji Z H p T M X t bx) (Hg Z H) (fun xs=>xs.map EY.r=gJ t 110000 s) (fun pre=>∃ rest,gJ t 110000 s=pre.map EY.r++rest) 110001 w:=by
 intro lo J Jx W hW hJ hY h0;refine callsIn_of_wp Tryz.func45 rfl trivial ?_ rfl;simp only [Tryz.ntmps45,List.size_toArray,List.length_cons,List.length_nil,Nat.reduceAdd,Nat.reduceSub,Array.replicate_succ,Array.replicate_zero,List.push_toArray,List.append_toArray,List.nil_append,List.cons_append];have hE:=h.next (Fr.of_below hW) (h.cur.below hW);have hB:aa W bx 43 #[.func (.func 15) #[.pointer (some ⟨p,0,none⟩)] #[]]:=(hW.block bx hbx.lt).trans hbx;have hfin:=hE.cur.fine;have hmu0:qW s<110000:=DO hfin (by rw [hE.cur.len];exact hE.cur.few);clear h hbx
 gi_wp2
 gi_loopw [] (fun wr=>∃ (A1:Option Addr) (c1:Nat) (kA1:Option Addr) (kc1:Nat) (l1:List LX) (s1:SW) (pre:List EY) (f:Nat),aR Z 75 H p T M X wr t A1 c1 kA1 kc1 l1 s1/\s1.done=false/\J pre wr/\aa wr bx 43 #[.func (.func 15) #[.pointer (some ⟨p,0,none⟩)] #[]]/\gJ t 110000 s=pre.map EY.r++gJ t f s1/\qW s1<f/\pre.length+f<=110000/\∀ k,Z k->¬ RW p A1 k) (fun wr=>muW p wr)
 case atStart=>exact ⟨A,cc,kA,kc,l,s,[],110000,hE,hd,h0,hB,rfl,hmu0,nR _,hZR⟩
 case round =>
  obtain ⟨A1,c1,kA1,kc1,l1,s1,pre,f,hE1,hd1,hj,hb1,hL,hmu,hpf,hZ1⟩:=hrel
  obtain ⟨wo,rfl⟩:∃ wo,wo=wr:=⟨wr,rfl⟩
  obtain ⟨f,rfl⟩:∃ f',f=f'+1:=⟨f-1,by omega⟩
  have b0:wo.cell? ⟨bx,0,none⟩=some (.func (.func 15) #[.pointer (some ⟨p,0,none⟩)] #[]):=hb1.cell 0;have eg:=enters_of Tryz.func15 (by kernel_rfl) rfl;have hN:=BN hE1 hE1.cur.mu hd1;have HI:=lH (aI hE1 (aI hj (aI hb1 (aI hL hZ1))));clear hE1 hj hb1 hL hZ1
  cases hr:ia t s1 with
  | mk r s2 =>
   rw [hr] at hN
   cases r with
   | error k =>
    gi_wp2_with (
     refine ⟨trivial,?_⟩;gi_at_call 15;refine (callsIn_wide.2 hN).mono ?_;rintro e w2 ⟨⟨v,rfl,hk,hv,hD⟩,hF2⟩
     have hvv:∃ tv pe,v=.iface tv pe:=(by rcases hv with ⟨h9,_⟩ | ⟨_,r,e9,_⟩;exact absurd h9 hk;exact ⟨_,_,e9⟩)
     obtain ⟨tv,pe,rfl⟩:=hvv;unfold zeroV ot;have hRt:=Hg.of HI.out.1.cur HI.out.2.2.2.2 hF2 (.cells #[.slice none 0 0,.slice none 0 0] 41);have hYy:=hY pre ⟨none,0,0,none,0,0,.iface tv pe,.error k⟩ (w2.alloc (.cells #[.slice none 0 0,.slice none 0 0] 41)) ⟨hk,(hv.fr (X:=fun _=>False) (Fr.of_below ((bR _ _).alloc (nR _) _)) (fun _ _ h=>h)).lo (Nat.le_of_lt (Nat.lt_of_le_of_lt HI.out.1.cur.lo HI.out.1.cur.blk.lt))⟩ (hJ _ _ _ HI.out.2.1 hRt) (by omega);obtain ⟨fn,tmps,assign,body,hy,hR⟩:=hYy
     unfold Fi at hy)
    refine hR.mono ?_;rintro e W3 (⟨rfl,hJ3,hk3⟩ | ⟨rfl,hJx3⟩)
    ·gi_wp2
     refine bodyPost_ret (results_none rfl _ _ _) rfl ?_;refine ⟨⟨_,rfl⟩,.inl ⟨_,?_,hJ3⟩⟩;rw [HI.out.2.2.2.1,List.map_append];unfold gJ;rw [hr];rfl
    ·gi_wp2
     refine bodyPost_ret (results_none rfl _ _ _) rfl ?_;refine ⟨⟨_,rfl⟩,.inr ⟨_,⟨[],?_⟩,hJx3⟩⟩;rw [HI.out.2.2.2.1,List.map_append,List.append_nil];unfold gJ;rw [hr];rfl
   | ok o =>
    cases o with
    | none =>
     gi_wp2_with (
      refine ⟨trivial,?_⟩;gi_at_call 15;refine (callsIn_wide.2 hN).mono ?_;rintro e w2 ⟨⟨rfl,hD⟩,hF2⟩;unfold zeroV ot
      have hRt:=Hg.of HI.out.1.cur HI.out.2.2.2.2 hF2 (.cells #[.slice none 0 0,.slice none 0 0] 41))
     refine ⟨fun _ h=>(by cases h),?_⟩
     gi_wp2
     refine bodyPost_ret (results_none rfl _ _ _) rfl ?_;refine ⟨⟨_,rfl⟩,.inl ⟨pre,?_,hJ _ _ _ HI.out.2.1 hRt⟩⟩;rw [HI.out.2.2.2.1];unfold gJ;rw [hr];simp
    | some x =>
     obtain ⟨key,val⟩:=x;obtain ⟨hfn,hm2,hdn⟩:=wF hr HI.out.1.cur.fine
     gi_wp2_with (
      refine ⟨trivial,?_⟩;gi_at_call 15;refine (callsIn_wide.2 hN).mono ?_;rintro e w2 ⟨⟨k2,c2,vA,vc,rfl,hl2,hr2,A2,cc2,l2,hC2,hAR2,hN2⟩,hF2⟩;unfold ot;have hRt:=Hg.of HI.out.1.cur HI.out.2.2.2.2 hF2 (.cells #[.slice k2 key.length c2,.slice vA val.length vc] 41);have hba:Below w2.heap.size w2 (w2.alloc (.cells #[.slice k2 key.length c2,.slice vA val.length vc] 41)):=(bR _ _).alloc (nR _) _;have hk2:=hC2.key;rw [hl2] at hk2;have hYy:=hY pre ⟨k2,key.length,c2,vA,val.length,vc,.nilIface,.ok (key,val)⟩ (w2.alloc (.cells #[.slice k2 key.length c2,.slice vA val.length vc] 41)) ⟨rfl,rfl,rfl,rM (hk2.below hba) hba.size,rM (hr2.below hba) hba.size⟩ (hJ _ _ _ HI.out.2.1 hRt) (by omega);obtain ⟨fn,tmps,assign,body,hy,hR⟩:=hYy
      unfold Fi at hy)
     refine hR.mono ?_;rintro e W3 (⟨rfl,hJ3,hk3⟩ | ⟨rfl,hJx3⟩)
     ·gi_wp2
      have hE2:=HI.out.1.next (hF2.alloc (.cells #[.slice k2 key.length c2,.slice vA val.length vc] 41)) (hC2.below hba);have hE3:=hk3.2.2 _ _ _ _ _ _ hE2;have hbl:=HI.out.2.2.1.lt;have hb3:aa W3 bx 43 #[.func (.func 15) #[.pointer (some ⟨p,0,none⟩)] #[]]:=hk3.1.trans ((hF2.alloc _).block bx hbl (HI.out.2.2.2.2 bx hbZ) |>.trans HI.out.2.2.1);have hm9:=hE3.cur.muW;have hm8:=HI.out.1.cur.muW
      have hL3:gJ t 110000 s=(pre++[(⟨k2,key.length,c2,vA,val.length,vc,.nilIface,.ok (key,val)⟩:EY)]).map EY.r++gJ t f s2:=by
       rw [HI.out.2.2.2.1,List.map_append,List.append_assoc];congr 1
       conv=>lhs;unfold gJ
       rw [hr];rfl
      go_roundw
      case rel=>exact ⟨A2,cc2,k2,c2,l2,s2,_,f,hE3,hdn.trans hd1,hJ3,hb3,hL3,by omega,by rw [lQ,List.length_singleton];omega,fun k hk hh=>HI.out.2.2.2.2 k hk (RW.trans hAR2 k (HI.out.1.cur.zlt k hk) hh)⟩
      case measure=>rw [hm9,hm8];exact hm2
     ·gi_wp2
      refine bodyPost_ret (results_none rfl _ _ _) rfl ?_;refine ⟨⟨_,rfl⟩,.inr ⟨_,⟨gJ t f s2,?_⟩,hJx3⟩⟩;rw [HI.out.2.2.2.1,List.map_append,List.append_assoc];congr 1
      conv=>lhs;unfold gJ
      rw [hr];rfl
end
end Go.Proofs.YtgohffhoapkeaaaGreatDoor
