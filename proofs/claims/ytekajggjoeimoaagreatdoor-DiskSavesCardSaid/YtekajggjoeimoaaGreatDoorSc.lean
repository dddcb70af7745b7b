/- A part of the proof of DiskSaves. No condition of its own. -/
import Derived.Test.YtekajggjoeimoaaGreatDoorSb
import Derived.RangeFuncRecord
import Derived.OrdersIn
set_option linter.unusedVariables false
namespace Go.Proofs.YtekajggjoeimoaaGreatDoor.Ev
open Go.RowKit
variable {ω:Nat→Value}
section
variable {C:Ctx} {B:Nat} {X:Aux} {m:M ω} {s s':AS} {w:World} {a:T Value} {act:Act} {n:Nat}
theorem one_all {l l':List Value} (h:LRel m l l') (ho:l.all oneV=true):∀ u∈l',u.oneCell'=true:=fun u hu=>by
 obtain ⟨j,hj⟩:=List.mem_iff_getElem?.1 hu
 have hjl:j<l.length:=by have:=(List.getElem?_eq_some_iff.1 hj).1;rw [h.1];exact this
 exact one_rel (h.2 j _ u (List.getElem?_eq_getElem hjl) hj) (List.all_eq_true.1 ho _ (List.getElem_mem hjl))
theorem readN_zero {p:Addr} {l:List Value} (h:readN s p 0=some l):l=[]:=by
 unfold readN at h
 split at h
 ·rename_i k _ _
  cases hb:Nat.ble (p.off+0) k.len with
  | false=>rw [hb] at h;cases h
  | true=>rw [hb] at h;simp only [cond_true,T.range] at h;cases h;rfl
 ·cases h
theorem readN_len {p:Addr} {k:Nat} {l:List Value} (h:readN s p k=some l):l.length=k:=by
 unfold readN at h
 split at h
 ·rename_i q _ _
  cases hb:Nat.ble (p.off+k) q.len with
  | false=>rw [hb] at h;cases h
  | true=>rw [hb] at h;simp only [cond_true] at h;exact (T.range_spec _ _ _ _ h).1
 ·cases h
theorem src_sound (hs:SR B X m s w) {P:Program} {size k:Nat} {tx:TypeId} {y y':Value} {new:List Value} (hy:VRel m y y') (h:srcCells s size y=some (k,new)) (ho:new.all oneV=true)
 (hk:(∃ e',P.underlying tx=some (.slice e'))∧(∀ b,y≠.string b)∨P.underlying tx=some .string∧size=1) :
 ∃ news,LRel m new news∧Src P size tx y' k news w:=by
 unfold srcCells at h
 split at h
 ·cases h
  obtain rfl:=nilsl_inv hy
  rcases hk with ⟨⟨e',hk⟩,_⟩ | ⟨hk,rfl⟩
  ·exact ⟨[],LRel.nil m,Src.ofNil w hk 0⟩
  ·exact ⟨[],LRel.nil m,⟨.inr hk,fun _=>rfl,run_firstCells_none w 1 0 0 0,run_firstCells_none w.drew 1 0 0 0,by simp,fun _ h=>by cases h⟩⟩
 ·rename_i p q c
  split at h
  ·rename_i l hl
   cases h
   obtain ⟨p',c',rfl,hor⟩:=slice_inv hy
   obtain ⟨news,h1,h2,h3⟩:∃ news,LRel m new news∧news.length=k*size∧∀ j v,news[j]?=some v→w.cell? (p'.add j)=some v:=by
    rcases hor with ⟨hp,_,_⟩ | ⟨rfl,_,_⟩
    ·exact readN_sound hs hl hp
    ·rw [Nat.zero_mul] at hl
     obtain rfl:=readN_zero hl
     exact ⟨[],LRel.nil m,by simp,fun j v h=>by simp at h⟩
   have e1:=run_firstCells_some (P:=P) w size k p' k c' news h2 h3
   have e2:=run_firstCells_some (P:=P) w.drew size k p' k c' news h2 (by simpa using h3)
   refine ⟨news,h1,?_,fun _=>rfl,e1,e2,h2,one_all h1 ho⟩
   rcases hk with ⟨hk,_⟩ | ⟨hk,rfl⟩
   ·exact .inl hk
   ·exact .inr hk
  ·cases h
 ·rename_i b
  cases h
  obtain rfl:=str_inv hy
  rcases hk with ⟨_,hk⟩ | ⟨hk,rfl⟩
  ·exact absurd rfl (hk b)
  ·exact ⟨byteCells b,LRel.plain (List.all_eq_true.2 fun v hv=>by obtain ⟨_,_,rfl⟩:=List.mem_map.1 hv;rfl),Src.ofString w hk b⟩
 ·cases h
theorem appSrc_sound (hC:CtxOK ω C) (hs:SR B X m s w) {e tx:TypeId} {ti:TypeInfo} {z:Value} (hty:C.ty e=some ti) (hz:ti.zero=some z) (hzt:tupB z=false) {dx:TypeDesc} (hdx:C.P.underlying tx=some dx)
 {y y':Value} {k:Nat} {new:List Value} (hy:VRel m y y') (h:appSrc C e ti.size dx y s=some (k,new)) (ho:new.all oneV=true) :
 ∃ news,LRel m new news∧news.length=k*ti.size∧ASrc C.P e ti z tx y' k news w:=by
 have hzp:=hC.zero e ti z hty hz hzt
 unfold appSrc at h
 split at h
 ·rename_i kd
  split at h
  ·rename_i kk q z' hz'
   obtain ⟨i0,z0,g1,g2,rfl,g4,g5⟩:=zeroC_sound hC hz'
   rw [hC.ty e ti hty] at g1;cases g1
   rw [hz] at g2;cases g2
   split at h
   ·rename_i hq
    cases h
    obtain rfl:=int_inv hy
    refine ⟨repL q.toNat (cellsOf z),LRel.plain (repL_plain _ g4 _),by rw [repL_len,g5],⟨.inr ⟨⟨kd,hdx⟩,⟨kk,by rw [Int.toNat_of_nonneg hq.1]⟩,by omega,by rw [cells_list]⟩⟩⟩
   ·cases h
  ·cases h
 ·rename_i e'
  cases hsl:isSlV y with
  | false=>simp [hsl] at h
  | true =>
   simp only [hsl,cond_true] at h
   obtain ⟨news,h1,h2⟩:=src_sound (P:=C.P) (tx:=tx) hs hy h ho (.inl ⟨⟨e',hdx⟩,fun b e=>by rw [e] at hsl;cases hsl⟩)
   exact ⟨news,h1,h2.newsLen,⟨.inl h2⟩⟩
 ·cases hb:Nat.beq ti.size 1 with
  | false=>simp [hb] at h
  | true =>
   simp only [hb,cond_true] at h
   have h1:=Nat.eq_of_beq_eq_true hb
   obtain ⟨news,h1,h2⟩:=src_sound (P:=C.P) (tx:=tx) hs hy h ho (.inr ⟨hdx,h1⟩)
   exact ⟨news,h1,h2.newsLen,⟨.inl h2⟩⟩
 ·cases h
theorem grown_sound (hs:SR B X m s w) (hB:B≤w.heap.size) {l l':List Value} (hl:LRel m l l') {k size cap:Nat} (hk:l.length=k*size) (hcap:k≤cap) {e:TypeId} {z:Array Value} (hz:z.size=size) {r:R}
 (h:grown s l k e size=some (r,s')) :
 ∃ v,r=.val v∧∃ m',Le m m'∧SR B X m' s' (w.drew.alloc (.cells (l'.toArray++Builtin.zeroCells z (cap-k)) e))∧Below B w (w.drew.alloc (.cells (l'.toArray++Builtin.zeroCells z (cap-k)) e)) ∧
  VRel m' v (.slice (some ⟨w.heap.size,0,none⟩) k cap):=by
 have hsz:(l'.toArray++Builtin.zeroCells z (cap-k)).size=cap*size:=by
  simp [Builtin.zeroCells,←hl.1,hk,hz]
  rw [←Nat.add_mul];congr 1;omega
 obtain ⟨g1,g2⟩:=newOpen_sound (w1:=w.drew.alloc (.cells (l'.toArray++Builtin.zeroCells z (cap-k)) e)) (l:=l) (c':=l'.toArray++Builtin.zeroCells z (cap-k)) (e:=e) (fz:=(0,0)) hs hB (by simp) (fun q hq=>Below.heap_alloc w.drew _ q hq) false size
  (heap_alloc_new w.drew _) (.inl rfl) (by rw [hsz,hk];exact Nat.mul_le_mul_right _ hcap) (fun j v hj=>by
   obtain ⟨v',h1,h2⟩:=hl.at_ hj
   have hj':j<l'.length:=(List.getElem?_eq_some_iff.1 h1).1
   refine ⟨v',?_,h2⟩
   rw [Array.getElem?_append_left (by simpa using hj')]
   simpa using h1)
 unfold grown at h
 simp only [newBlk,Option.some.injEq,Prod.mk.injEq] at h
 obtain ⟨rfl,rfl⟩:=h
 refine ⟨_,rfl,_,g2,g1,((Below.refl B w).drew).alloc hB _,.slice _ _ _ _ _ ⟨rfl,_,ext_same _ _ _,rfl⟩ (.inr ⟨hcap,_,ext_same _ _ _,rfl,?_,?_⟩) (Nat.le_refl _)⟩
 ·simp [hk]
 ·simp [hsz]
theorem appendTo_sound (hC:CtxOK ω C) (hs:SR B X m s w) (hB:B≤w.heap.size) {t tx ty e:TypeId} {ti:TypeInfo} {z:Value} (hun:C.P.underlying t=some (.slice e)) (hty:C.ty e=some ti) (hz:ti.zero=some z) (hzt:tupB z=false) (hby:ti.bytes≤1000000)
 {x x' y':Value} {k:Nat} {new news:List Value} (hx:VRel m x x') (hl:LRel m new news) (hone:new.all oneV=true) (hnl:news.length=k*ti.size) (hsrc:ASrc C.P e ti z tx y' k news w) {r:R}
 (h:appendTo s x k ti.size e new=some (r,s')):∃ v,r=.val v∧VOK B X m s' w v ((Builtin.append_ #[t,tx] ty #[x',y']).run C.P w):=by
 have hti:=hC.ty _ _ hty
 have hzs:z.cells.size=ti.size:=by rw [cells_arr,(hC.zero e ti z hty hz hzt).2];simp
 have hnl':new.length=k*ti.size:=by rw [hl.1,hnl]
 unfold appendTo at h
 split at h
 ·obtain rfl:=nilsl_inv hx
  cases h0:Nat.beq k 0 with
  | true =>
   have hk0:=Nat.eq_of_beq_eq_true h0
   subst hk0
   simp only [h0,cond_true,Option.some.injEq,Prod.mk.injEq] at h
   obtain ⟨rfl,rfl⟩:=h
   exact ⟨_,rfl,VOK.same hs (app_room (w':=w) t tx ty e ti z hun hti hz hzs hby none 0 0 y' 0 news hsrc (by omega) (fun p hp=>by cases hp) (fun _=>rfl)) (.plain _ rfl)⟩
  | false =>
   have hk0:=Nat.ne_of_beq_eq_false h0
   simp only [h0,cond_false] at h
   cases h1:Nat.ble k 1000000 with
   | false=>simp [h1] at h
   | true =>
    simp only [h1,cond_true] at h
    have h1':=Nat.le_of_ble_eq_true h1
    have hrun:=app_grow t tx ty e ti z hun hti hz hzs hby none 0 0 [] (run_firstCells_none w.drew ti.size 0 0 0) y' k news hsrc (by omega) (by omega)
    obtain ⟨v,rfl,m',g1,g2,g3,g4⟩:=grown_sound hs hB hl hnl' (cap:=grownCap w (0+k) 0 e) (by have:=grownCap_ge w (0+k) 0 e;omega) hzs h
    rw [List.nil_append] at hrun
    simp only [Nat.zero_add] at hrun g2 g3 g4
    exact ⟨v,rfl,_,_,m',hrun,g1,g2,g3,g4⟩
 ·rename_i p q c
  obtain ⟨p',c',rfl,hor⟩:=slice_inv hx
  cases h1:Nat.ble (q+k) 1000000 with
  | false=>simp [h1] at h
  | true =>
   simp only [h1,cond_true] at h
   have h1':=Nat.le_of_ble_eq_true h1
   have hcc:c≤c':=by
    rcases hor with ⟨_,hcr,_⟩ | ⟨_,rfl,rfl⟩
    ·rcases hcr with rfl | ⟨h,_⟩
     ·exact Nat.le_refl _
     ·exact h
    ·exact Nat.le_refl _
   unfold appendAt at h
   cases h2:Nat.ble (q+k) c with
   | true =>
    have h2':=Nat.le_of_ble_eq_true h2
    simp only [h2,cond_true] at h
    split at h
    ·rename_i s2 hw
     cases h
     refine ⟨_,rfl,?_⟩
     rcases hor with ⟨hp,hcr,hqc⟩ | ⟨rfl,rfl,rfl⟩
     ·obtain ⟨w',g1,g2,g3⟩:=writeL_sound (P:=C.P) hs hw (addr_add hp) hl
      exact ⟨_,w',m,app_room t tx ty e ti z hun hti hz hzs hby (some p') q c' y' k news hsrc (by omega) (fun p0 hp0=>by cases hp0;exact g1) (fun h=>by cases h),Le.refl _,g2,g3,.slice _ _ _ _ _ hp hcr (by omega)⟩
     ·have hk0:k=0:=by omega
      subst hk0
      have hnew:new=[]:=List.length_eq_zero_iff.1 (by rw [hnl'];simp)
      have hnews:news=[]:=List.length_eq_zero_iff.1 (by rw [hnl];simp)
      subst hnew;subst hnews
      exact ⟨_,w,m,app_room t tx ty e ti z hun hti hz hzs hby (some p') 0 0 y' 0 [] hsrc (by omega) (fun p0 hp0=>by simp [storeCells]) (fun h=>by cases h),Le.refl _,writeNil_sound hs (by have:=slice_map hx;exact this) hw,Below.refl _ _,.slice0 _ _ (slice_map hx)⟩
    ·cases h
   | false =>
    have h2':¬ (q+k≤c):=fun hh=>by rw [Nat.ble_eq_true_of_le hh] at h2;cases h2
    simp only [h2,cond_false] at h
    split at h
    ·rename_i old kb hold hkb
     have hol:=readN_len hold
     obtain ⟨olds,o1,o2,o3⟩:∃ olds,LRel m old olds∧olds.length=q*ti.size∧∀ j v,olds[j]?=some v→w.cell? (p'.add j)=some v:=by
      rcases hor with ⟨hp,_,_⟩ | ⟨rfl,_,_⟩
      ·exact readN_sound hs hold hp
      ·rw [Nat.zero_mul] at hold
       obtain rfl:=readN_zero hold
       exact ⟨[],LRel.nil m,by simp,fun j v h=>by simp at h⟩
     have hfirst:=run_firstCells_some (P:=C.P) w.drew ti.size q p' q c' olds o2 (by simpa using o3)
     have hlen:(old++new).length=(q+k)*ti.size:=by rw [List.length_append,hol,hnl',Nat.add_mul]
     have grows:∀ {s0:AS},SR B X m s0 w→c'<q+k→grown s0 (old++new) (q+k) e ti.size=some (r,s')→∃ v,r=.val v∧VOK B X m s' w v ((Builtin.append_ #[t,tx] ty #[.slice (some p') q c',y']).run C.P w):=by
      intro s0 hs0 hlt hg
      have hrun:=app_grow t tx ty e ti z hun hti hz hzs hby (some p') q c' olds hfirst y' k news hsrc hlt h1'
      obtain ⟨v,rfl,m',g1,g2,g3,g4⟩:=grown_sound hs0 hB (o1.append hl) hlen (grownCap_ge w (q+k) c' e) hzs hg
      exact ⟨v,rfl,_,_,m',hrun,g1,g2,g3,g4⟩
     obtain ⟨i,i1⟩:=slice_map hx
     obtain ⟨i2,⟨a1,a2,a3,a4,cw,fz,hw,hsz,hcell,hfz⟩,i4,i5⟩:=blk_at hs hkb i1
     have fixed:(kb.opn=true→kb.esz=ti.size∧p.off+c*ti.size≠kb.len)→c'<q+k:=by
      intro hno
      rcases hor with ⟨hp,hcr,_⟩ | ⟨_,rfl,rfl⟩
      ·rcases hcr with rfl | ⟨_,i',j1,j2,j3,_⟩
       ·omega
       ·rw [i1] at j1;cases j1
        obtain ⟨x1,x2⟩:=hno (by rw [←a2];exact j2)
        rw [a3,x1,a1] at j3
        exact absurd j3 x2
      ·omega
     cases ho:kb.opn with
     | false =>
      simp only [ho,cond_false] at h
      exact grows hs (fixed (fun e=>by rw [ho] at e;cases e)) h
     | true =>
      simp only [ho,cond_true] at h
      cases hez:Nat.beq kb.esz ti.size with
      | false=>simp [hez] at h
      | true =>
       simp only [hez,cond_true] at h
       have hez':=Nat.eq_of_beq_eq_true hez
       cases hend:Nat.beq (p.off+c*ti.size) kb.len with
       | false =>
        simp only [hend,cond_false] at h
        exact grows hs (fixed (fun _=>⟨hez',Nat.ne_of_beq_eq_false hend⟩)) h
       | true =>
        simp only [hend,cond_true] at h
        have hend':=Nat.eq_of_beq_eq_true hend
        cases hel:Nat.beq kb.elem e with
        | false=>simp [hel] at h
        | true =>
        have helem:=Nat.eq_of_beq_eq_true hel
        simp only [hel,cond_true] at h
        have hkill:=kill_sound hs p.block (by rw [i2];rfl) i1
        by_cases hroom:q+k≤c'
        ·
          rcases hor with ⟨hp,hcr,hqc⟩ | ⟨_,rfl,rfl⟩
          ·obtain ⟨hspot,i',hi',rfl⟩:=hp
           rw [i1] at hi';cases hi'
           have hfit:i.d+p.off+c'*ti.size≤i.tot:=by
            rcases hcr with rfl | ⟨_,i',j1,j2,j3,j4⟩
            ·omega
            ·rw [i1] at j1;cases j1;rw [a3,hez'] at j4;exact j4
           have hmul:(q+k)*ti.size≤c'*ti.size:=Nat.mul_le_mul_right _ hroom
           have hqk:q*ti.size+k*ti.size=(q+k)*ti.size:=(Nat.add_mul _ _ _).symm
           have hst:=run_storeCells_cells (P:=C.P) i.r (i.d+p.off+q*ti.size) news 0 w
            (fun j hj=>by
             rw [cell_of_row w i.r _ cw kb.elem fz hw]
             rw [hnl] at hj
             have hb:i.d+p.off+q*ti.size+j<cw.size:=by omega
             simp [hb])
            (fun j hj=>by
             simp only [World.frozen?,hw]
             rw [hnl] at hj
             rcases hfz with e | ⟨e,_⟩ <;> rw [e] <;> simp
             omega)
            (one_all hl hone)
           simp only [Nat.add_zero] at hst
           obtain ⟨c2,g1,g2,g3⟩:=heap_setCells news (i.d+p.off+q*ti.size) w cw hw
           have hrun:=app_room (w':=w.setCells i.r (i.d+p.off+q*ti.size) news) t tx ty e ti z hun hti hz hzs hby (some ⟨i.r,i.d+p.off,none⟩) q c' y' k news hsrc hroom (fun p0 hp0=>by cases hp0;rw [add_lit];exact hst) (fun h=>by cases h)
           simp only [grown,newBlk,Option.some.injEq,Prod.mk.injEq] at h
           obtain ⟨rfl,rfl⟩:=h
           have hle:Le m (ext m s.n ⟨i.r,i.d+p.off,(old++new).length,ti.size,true,i.tot⟩):=ext_le (hs.freshM s.n (Nat.le_refl _))
           have hsr:=share_sound (i':=⟨i.r,i.d+p.off,(old++new).length,ti.size,true,i.tot⟩) (o':=.cells ⟨T.ofList (old++new) 0 .leaf,(old++new).length,e,ti.size,true,false⟩)
            (w1:=w.setCells i.r (i.d+p.off+q*ti.size) news) hs i2 rfl i1 rfl (size_setCells _ _ _) (fun x hx=>heap_setCells_other _ _ _ _ hx) ?_
           ·refine ⟨_,rfl,_,_,_,hrun,hle,hsr,below_setCells i4 _ _ _,.slice _ _ _ _ _ ⟨rfl,_,ext_same _ _ _,rfl⟩ (.inr ⟨hroom,_,ext_same _ _ _,rfl,?_,?_⟩) (Nat.le_refl _)⟩
            ·simp only [Nat.zero_add];exact hlen.symm
            ·simpa using hfit
           ·refine ⟨rfl,rfl,rfl,by show i.d+p.off+(old++new).length≤i.tot;omega,c2,fz,by rw [←helem];exact g1,by rw [g2];exact hsz,fun j hj=>?_,by rw [←helem];exact hfz⟩
            have hj':j<(old++new).length:=hj
            have hll:(old++new).length=(olds++news).length:=(o1.append hl).1
            refine ⟨(old++new)[j],(olds++news)[j]'(by omega),by rw [T.get_ofList,if_pos (by omega)];simp,?_,((o1.append hl).2 j _ _ (List.getElem?_eq_getElem hj') (List.getElem?_eq_getElem (by omega))).mono hle⟩
            show c2[i.d+p.off+j]?=_
            rw [g3]
            by_cases hjo:j<olds.length
            ·rw [if_neg (by omega),List.getElem_append_left hjo]
             have:=o3 j olds[j] (List.getElem?_eq_getElem hjo)
             rw [add_lit,cell_of_row w i.r _ cw kb.elem fz hw] at this
             exact this
            ·rw [if_pos (by omega),List.getElem_append_right (by omega),←List.getElem?_eq_getElem]
             congr 1;omega
          ·omega
        ·exact grows hkill (by omega) h
    ·cases h
 ·cases h
theorem args2 {x y:Value} {args:Array Value} (hl:LRel m [x,y] args.toList):∃ x' y',args=#[x',y']∧VRel m x x'∧VRel m y y':=by
 have:=hl.1;simp at this
 match args,this,hl with
 | ⟨[u1,u2]⟩,_,hl=>exact ⟨u1,u2,rfl,hl.tail.1,hl.tail.2.tail.1⟩
theorem args1 {x:Value} {args:Array Value} (hl:LRel m [x] args.toList):∃ x',args=#[x']∧VRel m x x':=by
 have:=hl.1;simp at this
 match args,this,hl with
 | ⟨[u1]⟩,_,hl=>exact ⟨u1,rfl,hl.tail.1⟩
theorem SR.garbage (h:SR B X m s w) (o:Obj):SR B X m s (w.drew.alloc o):=⟨fun b p i h1 h2 h3=>by
 obtain ⟨k1,k2,k3⟩:=h.rel b p i h1 h2 h3
 exact ⟨k1.other (Below.heap_alloc w.drew _ _ k3),k2,by simp;omega⟩,h.inj,h.freshH,h.freshM,h.gh,fun r p hr=>by
 obtain ⟨k1,k2,k3⟩:=h.kp r p hr
 exact ⟨by rw [Below.heap_alloc w.drew _ _ (Array.getElem?_eq_some_iff.1 k1).1];exact k1,k2,k3⟩,fun b i hi=>by have:=h.lt b i hi;simp;omega⟩
theorem appendTok_sound (hC:CtxOK ω C) (hs:SR B X m s w) (hB:Bs ω C B w) {t tx ty:TypeId} {x x':Value} {k:Nat} (hx:VRel m x x') {r:R} (h:appendTok C t tx x k s=some (r,s')) :
 OpOK C B X m s' w r ((do let z ←Builtin.append_ #[t,tx] ty #[x',ω k];pure (Next.value z):Sem Next).run C.P w):=by
 unfold appendTok at h
 split at h
 ·rename_i e e' hu hux
  have hun:=hC.un _ _ hu
  have hunx:=hC.un _ _ hux
  split at h
  ·rename_i ti hty
   cases hc:(C.rd k && (emptyV s x && (Nat.beq ti.size 1 && (Nat.ble ti.bytes 1000000 && hasZero ti)))) with
   | false=>rw [hc] at h;cases h
   | true =>
    rw [hc] at h
    cases h
    simp only [Bool.and_eq_true] at hc
    obtain ⟨hrd,hem,hsz,hby,hhz⟩:=hc
    have hsz':=Nat.eq_of_beq_eq_true hsz
    have hby':=Nat.le_of_ble_eq_true hby
    obtain ⟨z,hz,hzt⟩:∃ z,ti.zero=some z∧tupB z=false:=by
     unfold hasZero at hhz
     split at hhz
     ·rename_i z hz;exact ⟨z,hz,by simpa using hhz⟩
     ·cases hhz
    have hti:=hC.ty _ _ hty
    have hzs:z.cells.size=ti.size:=by rw [cells_arr,(hC.zero e ti z hty hz hzt).2];simp
    obtain ⟨p',rfl⟩:∃ p',x'=.slice (some p') 0 0:=by
     unfold emptyV at hem
     split at hem
     ·rename_i a
      split at hem
      ·rename_i q hq
       obtain ⟨p',c',rfl,hor⟩:=slice_inv hx
       obtain ⟨i,hi⟩:=slice_map hx
       obtain ⟨_,⟨_,a2,_⟩,_⟩:=blk_at hs hq hi
       rcases hor with ⟨_,hcr,_⟩ | ⟨_,_,rfl⟩
       ·rcases hcr with rfl | ⟨_,j,j1,j2,_⟩
        ·exact ⟨p',rfl⟩
        ·rw [hi] at j1;cases j1
         rw [←a2,j2] at hem;cases hem
       ·exact ⟨p',rfl⟩
      ·cases hem
     ·cases hem
    have go:∀ (n:Nat) (news:List Value),n≤1000000→Src C.P ti.size tx (ω k) n news w→OpOK C B X m s w (.val (.chan none)) ((do let z ←Builtin.append_ #[t,tx] ty #[.slice (some p') 0 0,ω k];pure (Next.value z):Sem Next).run C.P w):=by
     intro n news hn hsrc
     have hAS:ASrc C.P e ti z tx (ω k) n news w:=⟨.inl hsrc⟩
     by_cases h0:n=0
     ·subst h0
      have hnil:news=[]:=List.length_eq_zero_iff.1 (by rw [hsrc.newsLen];simp)
      subst hnil
      have hrun:=app_room (w':=w) t tx ty e ti z hun hti hz hzs hby' (some p') 0 0 (ω k) 0 [] hAS (by omega) (fun p hp=>by simp [storeCells]) (fun h=>by cases h)
      exact VOK.op ⟨_,w,m,hrun,Le.refl _,hs,Below.refl _ _,.any _ rfl⟩
     ·have hfirst:=run_firstCells_some (P:=C.P) w.drew ti.size 0 p' 0 0 [] (by simp) (fun j v h=>by simp at h)
      have hrun:=app_grow t tx ty e ti z hun hti hz hzs hby' (some p') 0 0 [] hfirst (ω k) n news hAS (by omega) (by omega)
      exact VOK.op ⟨_,_,m,hrun,Le.refl _,hs.garbage _,((Below.refl B w).drew).alloc hB.le _,.any _ rfl⟩
    rcases hB.rd k hrd with e0 | ⟨p,n,c,news,e0,h2,h3,h4,h5,h6⟩
    ·exact go 0 [] (by omega) (by rw [e0];exact Src.ofNil w hunx 0)
    ·refine go n news h2 ?_
     rw [e0]
     exact Src.ofSlice w hunx p n c news (by rw [hsz'];omega) h5 (fun u hu=>oneV_cell (h6 u hu))
  ·cases h
 ·cases h
theorem tok_inv {k:Nat} {v:Value} (h:VRel m (.chan (some k)) v):v=ω k:=by
 cases h with
 | plain v h=>cases h
 | tok k h=>rfl
theorem append_sound (hC:CtxOK ω C) (hs:SR B X m s w) (hBs:Bs ω C B w) {ts:List TypeId} {vs:List Value} {args:Array Value} (hl:LRel m vs args.toList) {ty:TypeId} {r:R} (h:biAppend C ts vs s=some (r,s')) :
 OpOK C B X m s' w r ((do let z ←Builtin.append_ ts.toArray ty args;pure (Next.value z):Sem Next).run C.P w):=by
 have hB:=hBs.le
 unfold biAppend at h
 split at h
 ·rename_i t tx x k
  obtain ⟨x',y',rfl,hx,hy⟩:=args2 hl
  obtain rfl:=tok_inv hy
  exact appendTok_sound hC hs hBs hx h
 ·rename_i t tx x y
  obtain ⟨x',y',rfl,hx,hy⟩:=args2 hl
  unfold appendV at h
  split at h
  ·rename_i e hu
   have hun:=hC.un _ _ hu
   split at h
   ·rename_i ti dx hty hdx
    have hdx':=hC.un _ _ hdx
    cases hb:Nat.ble ti.bytes 1000000 with
    | false=>simp [hb] at h
    | true =>
     simp only [hb,cond_true] at h
     split at h
     ·rename_i k new hsrc
      cases ho:(new.all oneV && hasZero ti) with
      | false=>simp [ho] at h
      | true =>
       simp only [ho,cond_true] at h
       rw [Bool.and_eq_true] at ho
       obtain ⟨z,hz,hzt⟩:∃ z,ti.zero=some z∧tupB z=false:=by
        have h2:=ho.2
        unfold hasZero at h2
        split at h2
        ·rename_i z hz;exact ⟨z,hz,by simpa using h2⟩
        ·cases h2
       obtain ⟨news,g1,g2,g3⟩:=appSrc_sound hC hs hty hz hzt hdx' hy hsrc ho.1
       obtain ⟨v,rfl,hv⟩:=appendTo_sound (ty:=ty) hC hs hB hun hty hz hzt (Nat.le_of_ble_eq_true hb) hx g1 ho.1 g2 g3 h
       exact VOK.op hv
     ·cases h
   ·cases h
  ·cases h
 ·cases h
theorem len_sound (hC:CtxOK ω C) (hs:SR B X m s w) {ts:List TypeId} {vs:List Value} {args:Array Value} (hl:LRel m vs args.toList) {ty:TypeId} {r:R} (h:biLen C ts vs s=some (r,s')) :
 OpOK C B X m s' w r ((do let z ←Builtin.len_ ts.toArray ty args;pure (Next.value z):Sem Next).run C.P w):=by
 unfold biLen at h
 split at h
 ·rename_i t k
  obtain ⟨x',rfl,hx⟩:=args1 hl
  unfold lenTok at h
  split at h
  ·rename_i v hv
   cases h
   obtain ⟨v',hr,hvv⟩:=hC.len t k v hv m x' ty w hx
   exact VOK.op (VOK.same hs hr hvv)
  ·cases h
 ·rename_i t x hno
  clear hno
  obtain ⟨x',rfl,hx⟩:=args1 hl
  split at h
  ·rename_i e hu
   have hun:=hC.un _ _ hu
   split at h
   ·rename_i p k c
    cases h
    have:∃ p' c',x'=.slice p' k c':=by
     cases hx with
     | plain v h=>exact ⟨_,_,rfl⟩
     | slice a a' n c c'=>exact ⟨_,_,rfl⟩
     | slice0 a a' h0=>exact ⟨_,_,rfl⟩
    obtain ⟨p',c',rfl⟩:=this
    exact VOK.op (VOK.same hs (v':=.int .i64 k) (by simp [Builtin.len_,run_underlying hun,goInt]) (.plain _ rfl))
   ·cases h
  ·rename_i hu
   have hun:=hC.un _ _ hu
   split at h
   ·rename_i b
    cases h
    obtain rfl:=str_inv hx
    exact VOK.op (VOK.same hs (v':=.int .i64 b.size) (by simp [Builtin.len_,run_underlying hun,goInt]) (.plain _ rfl))
   ·cases h
  ·rename_i kt et hu
   have hun:=hC.un _ _ hu
   split at h
   ·cases h
    rcases mapv_inv hx with ⟨_,rfl⟩ | ⟨_,_,e,_⟩
    ·exact VOK.op (VOK.same hs (v':=.int .i64 0) (by simp [Builtin.len_,run_underlying hun,goInt]) (.plain _ rfl))
    ·cases e
   ·rename_i b
    split at h
    ·rename_i es ck hb
     cases h
     rcases mapv_inv hx with ⟨e,_⟩ | ⟨b',i',e,e2,rfl⟩
     ·cases e
     ·cases e
      obtain ⟨es',h2,h3,_⟩:=map_obj hs hb e2
      exact VOK.op (VOK.same hs (v':=.int .i64 es.length) (by simp [Builtin.len_,run_underlying hun,getObj_run h2,goInt,h3.1]) (.plain _ rfl))
    ·cases h
   ·cases h
  ·rename_i k e hu
   have hun:=hC.un _ _ hu
   cases h
   exact VOK.op (VOK.same hs (v':=.int .i64 k) (by simp [Builtin.len_,run_underlying hun,goInt]) (.plain _ rfl))
  ·rename_i e hu
   have hun:=hC.un _ _ hu
   split at h
   ·rename_i k e2 hu2
    have hun2:=hC.un _ _ hu2
    cases h
    exact VOK.op (VOK.same hs (v':=.int .i64 k) (by simp [Builtin.len_,run_underlying hun,run_underlying hun2,goInt]) (.plain _ rfl))
   ·cases h
  ·cases h
 ·cases h
theorem cap_sound (hC:CtxOK ω C) (hs:SR B X m s w) {ts:List TypeId} {vs:List Value} {args:Array Value} (hl:LRel m vs args.toList) {ty:TypeId} {r:R} (h:biCap C ts vs s=some (r,s')) :
 OpOK C B X m s' w r ((do let z ←Builtin.cap_ ts.toArray ty args;pure (Next.value z):Sem Next).run C.P w):=by
 unfold biCap at h
 split at h
 ·rename_i t x
  obtain ⟨x',rfl,hx⟩:=args1 hl
  split at h
  ·rename_i e hu
   have hun:=hC.un _ _ hu
   split at h
   ·cases h
    obtain rfl:=nilsl_inv hx
    exact VOK.op (VOK.same hs (v':=.int .i64 0) (by simp [Builtin.cap_,run_underlying hun,goInt]) (.plain _ rfl))
   ·rename_i p k c
    obtain ⟨p',c',rfl,hor⟩:=slice_inv hx
    have fin:c'=c→some (R.val (.int .i64 c),s)=some (r,s')→OpOK C B X m s' w r ((do let z ←Builtin.cap_ [t].toArray ty #[.slice (some p') k c'];pure (Next.value z):Sem Next).run C.P w):=by
     intro e he
     subst e
     cases he
     exact VOK.op (VOK.same hs (v':=.int .i64 c') (by simp [Builtin.cap_,run_underlying hun,goInt]) (.plain _ rfl))
    split at h
    ·rename_i kb size hkb hsz
     obtain ⟨i,i1⟩:=slice_map hx
     obtain ⟨i2,⟨a1,a2,a3,_⟩,_,_⟩:=blk_at hs hkb i1
     have fixed:(kb.opn=true→kb.esz=size∧p.off+c*size≠kb.len)→c'=c:=by
      intro hno
      rcases hor with ⟨hp,hcr,_⟩ | ⟨_,rfl,rfl⟩
      ·rcases hcr with rfl | ⟨_,i',j1,j2,j3,_⟩
       ·rfl
       ·rw [i1] at j1;cases j1
        obtain ⟨x1,x2⟩:=hno (by rw [←a2];exact j2)
        rw [a3,x1,a1] at j3
        exact absurd j3 x2
      ·rfl
     cases ho:kb.opn with
     | false =>
      simp only [ho,cond_false] at h
      exact fin (fixed (fun e=>by rw [ho] at e;cases e)) h
     | true =>
      simp only [ho,cond_true] at h
      cases hez:Nat.beq kb.esz size with
      | false=>simp [hez] at h
      | true =>
       simp only [hez,cond_true] at h
       cases hend:Nat.beq (p.off+c*size) kb.len with
       | true=>simp [hend] at h
       | false =>
        simp only [hend,cond_false] at h
        exact fin (fixed (fun _=>⟨Nat.eq_of_beq_eq_true hez,Nat.ne_of_beq_eq_false hend⟩)) h
    ·cases h
   ·cases h
  ·cases h
 ·cases h
end
end Go.Proofs.YtekajggjoeimoaaGreatDoor.Ev
namespace Go.Proofs.YtekajggjoeimoaaGreatDoor.Ev
open Go.RowKit
variable {ω:Nat→Value}
section
variable {C:Ctx} {B:Nat} {X:Aux} {m:M ω} {s s':AS} {w:World} {a:T Value} {act:Act} {n:Nat}
theorem copyTo_sound (hs:SR B X m s w) {P:Program} {p p':Addr} {q c c' size:Nat} {y y':Value} (hx:VRel m (.slice (some p) q c) (.slice (some p') q c')) (hy:VRel m y y') {r:R} (h:copyTo s p q size y=some (r,s')) :
 ∃ v k w' cells,r=.val v∧v=.int .i64 (Nat.min k q:Nat)∧(Builtin.lenOf y').run P w=.ok k w∧(Builtin.firstCells size (Nat.min k q) y').run P w=.ok cells w∧(storeCells p' cells.toList).run P w=.ok () w'∧SR B X m s' w'∧Below B w w':=by
 have store:∀ {l l':List Value} {s2:AS},LRel m l l'→(q=0→l=[])→writeL s p l=some s2→∃ w',(storeCells p' l').run P w=.ok () w'∧SR B X m s2 w'∧Below B w w':=by
  intro l l' s2 hl h0 hw
  obtain ⟨p2,c2,e,hor⟩:=slice_inv hx
  cases e
  rcases hor with ⟨hp,_,_⟩ | ⟨rfl,_,_⟩
  ·exact writeL_sound hs hw hp hl
  ·have:=h0 rfl
   subst this
   have:l'=[]:=List.length_eq_zero_iff.1 (by rw [←hl.1];rfl)
   subst this
   exact ⟨w,by simp [storeCells],writeNil_sound hs (slice_map hx) hw,Below.refl _ _⟩
 unfold copyTo at h
 split at h
 ·cases h
  obtain rfl:=nilsl_inv hy
  exact ⟨_,0,w,#[],rfl,by simp,rfl,rfl,by simp [storeCells],hs,Below.refl _ _⟩
 ·rename_i b k cc
  split at h
  ·rename_i l hl
   split at h
   ·rename_i s2 hw
    cases h
    obtain ⟨b',c2,rfl,hor⟩:=slice_inv hy
    obtain ⟨l',h1,h2,h3⟩:∃ l',LRel m l l'∧l'.length=Nat.min k q*size∧∀ j v,l'[j]?=some v→w.cell? (b'.add j)=some v:=by
     rcases hor with ⟨hp,_,_⟩ | ⟨rfl,_,_⟩
     ·exact readN_sound hs hl hp
     ·rw [show Nat.min 0 q=0 from Nat.zero_min q,Nat.zero_mul] at hl
      obtain rfl:=readN_zero hl
      exact ⟨[],LRel.nil m,by simp,fun j v h=>by simp at h⟩
    obtain ⟨w',g1,g2,g3⟩:=store h1 (fun e=>by
     subst e
     rw [show Nat.min k 0=0 from Nat.min_zero k,Nat.zero_mul] at hl
     exact readN_zero hl) hw
    exact ⟨_,k,w',l'.toArray,rfl,rfl,rfl,run_firstCells_some w size (Nat.min k q) b' k c2 l' h2 h3,by simpa using g1,g2,g3⟩
   ·cases h
  ·cases h
 ·rename_i b
  split at h
  ·rename_i s2 hw
   cases h
   obtain rfl:=str_inv hy
   obtain ⟨w',g1,g2,g3⟩:=store (LRel.plain (List.all_eq_true.2 fun v hv=>by obtain ⟨_,_,rfl⟩:=List.mem_map.1 hv;rfl)) (fun e=>by subst e;simp) hw
   refine ⟨_,b.size,w',_,rfl,rfl,rfl,rfl,?_,g2,g3⟩
   have:((b.extract 0 (Nat.min b.size q)).data.map fun x=>Value.int .u8 x.toNat).toList=(b.data.toList.take (Nat.min b.size q)).map fun x=>Value.int .u8 x.toNat:=by
    rw [Array.toList_map]
    congr 1
    simp [ByteArray.data_extract,List.extract_eq_take_drop]
   simp only [this]
   exact g1
  ·cases h
 ·cases h
theorem copy_sound (hC:CtxOK ω C) (hs:SR B X m s w) {ts:List TypeId} {vs:List Value} {args:Array Value} (hl:LRel m vs args.toList) {ty:TypeId} {r:R} (h:biCopy C ts vs s=some (r,s')) :
 OpOK C B X m s' w r ((do let z ←Builtin.copy_ ts.toArray ty args;pure (Next.value z):Sem Next).run C.P w):=by
 unfold biCopy at h
 split at h
 ·rename_i t t2 x y
  obtain ⟨x',y',rfl,hx,hy⟩:=args2 hl
  split at h
  ·rename_i e hu
   have hun:=hC.un _ _ hu
   split at h
   ·rename_i size hsz
    obtain ⟨ti,hti,rfl⟩:=sizeT_sound hC hsz
    split at h
    ·obtain rfl:=nilsl_inv hx
     unfold copyNil at h
     split at h
     ·rename_i p k c
      cases h
      have:∃ p' c',y'=.slice p' k c':=by
       cases hy with
       | plain v h=>exact ⟨_,_,rfl⟩
       | slice a a' n c c'=>exact ⟨_,_,rfl⟩
       | slice0 a a' h0=>exact ⟨_,_,rfl⟩
      obtain ⟨p',c',rfl⟩:=this
      refine VOK.op (VOK.same hs (v':=.int .i64 0) ?_ (.plain _ rfl))
      cases p' <;> simp [Builtin.copy_,run_underlying hun,Builtin.lenOf,sizeOf,typeInfo,hti,Builtin.firstCells,loadCells,loadCellsFrom,goInt]
     ·rename_i b
      cases h
      obtain rfl:=str_inv hy
      exact VOK.op (VOK.same hs (v':=.int .i64 0) (by simp [Builtin.copy_,run_underlying hun,Builtin.lenOf,sizeOf,typeInfo,hti,Builtin.firstCells,goInt]) (.plain _ rfl))
     ·cases h
    ·rename_i p q c
     obtain ⟨p',c',e,_⟩:=slice_inv hx
     subst e
     obtain ⟨v,k,w',cells,rfl,rfl,g1,g2,g3,g4,g5⟩:=copyTo_sound (P:=C.P) hs hx hy h
     refine VOK.op ⟨.int .i64 (Nat.min k q:Nat),w',m,?_,Le.refl _,g4,g5,.plain _ rfl⟩
     simp [Builtin.copy_,run_underlying hun,g1,sizeOf,typeInfo,hti,g2,g3,goInt]
    ·cases h
   ·cases h
  ·cases h
 ·cases h
theorem plain_list {l l':List Value} (h:LRel m l l') (hp:l.all plainV=true):l'=l:=by
 apply List.ext_getElem?
 intro i
 by_cases hi:i<l.length
 ·obtain ⟨v',h1,h2⟩:=h.at_ (List.getElem?_eq_getElem hi)
  rw [h1,List.getElem?_eq_getElem hi,plain_inv h2 (List.all_eq_true.1 hp _ (List.getElem_mem hi))]
 ·rw [List.getElem?_eq_none (by rw [←h.1];omega),List.getElem?_eq_none (by omega)]
theorem minmax_sound (hs:SR B X m s w) {b:Builtin} (hb:b=.min∨b=.max) {ts:List TypeId} {vs:List Value} {args:Array Value} (hl:LRel m vs args.toList) {ty:TypeId} {cs:Array Bool} {r:R} (h:biMinmax b C ts vs s=some (r,s')) :
 OpOK C B X m s' w r ((builtin b ts.toArray ty cs args).run C.P w):=by
 unfold biMinmax at h
 cases hp:vs.all plainV with
 | false=>simp [hp] at h
 | true =>
  simp only [hp,cond_true] at h
  split at h
  ·rename_i v hv
   cases hpv:plainV v with
   | false=>simp [hpv] at h
   | true =>
    simp only [hpv,cond_true,Option.some.injEq,Prod.mk.injEq] at h
    obtain ⟨rfl,rfl⟩:=h
    have e1:=plain_list hl hp
    have e2:args=vs.toArray:=by rw [←e1]
    subst e2
    have hr:=pureRun_run _ _ hv w
    refine ⟨.value v,w,m,?_,Le.refl _,hs,Below.refl _ _,.plain v hpv⟩
    rw [←hr]
    rcases hb with rfl | rfl <;> rfl
  ·cases h
theorem builtin_sound (hC:CtxOK ω C) (hs:SR B X m s w) (hB:Bs ω C B w) {b:Builtin} {ts:List TypeId} {vs:List Value} {args:Array Value} (hl:LRel m vs args.toList) {ty:TypeId} {cs:Array Bool} {r:R} (h:builtinV C b ts vs s=some (r,s')) :
 OpOK C B X m s' w r ((builtin b ts.toArray ty cs args).run C.P w):=by
 unfold builtinV builtinK at h
 split at h
 ·exact append_sound hC hs hB hl h
 ·exact len_sound hC hs hl h
 ·exact cap_sound hC hs hl h
 ·exact copy_sound hC hs hl h
 ·exact delete_sound hC hs hl h
 ·exact minmax_sound hs (.inl rfl) hl h
 ·exact minmax_sound hs (.inr rfl) hl h
 ·cases h
theorem func_inv {g:FuncId} {fs cs:Array Value} {v:Value} (h:VRel m (.func (.func g) fs cs) v):∃ fs' cs',v=.func (.func g) fs' cs'∧LRel m fs.toList fs'.toList∧LRel m cs.toList cs'.toList:=by
 cases h with
 | plain v h=>simp [plainV] at h
 | func f fs fs' cs cs' h1 h2 h3 h4=>exact ⟨fs',cs',rfl,LRel.of_arr h1 h3,LRel.of_arr h2 h4⟩
theorem yield_inv {l:Nat} {fs cs:Array Value} {v:Value} (h:VRel m (.func (.yield l) fs cs) v):∃ i,m l=some i∧v=.func (.yield i.r) #[] #[]:=by
 cases h with
 | plain v h=>simp [plainV] at h
 | yield b i h=>exact ⟨i,h,rfl⟩
theorem find_arr {α:Type} (xs:Array α) (p:α→Bool):xs.find? p=xs.toList.find? p:=by simp
theorem call_sound (hC:CtxOK ω C) (hs:SR B X m s w) (ht:TR m n a act) (hB:Bs ω C B w) {c:Call} {ty:TypeId} {r:R} (h:opCall c C a s=some (r,s')) :
 OpOK C B X m s' w r ((do let d ←resolve act.eval c ty;invoke d.target d.args:Sem Next).run C.P w):=by
 unfold opCall at h
 split at h
 ·rename_i b vs hc hv
  have hl:=opnds_sound ht hv
  have hl':LRel m vs (c.args.map act.eval).toList:=by simpa using hl
  simp only [resolve,hc,Sem.run_bind]
  exact builtin_sound hC hs hB hl' h
 ·rename_i f vs hc hv
  have hl:=opnds_sound ht hv
  have hl':LRel m vs (c.args.map act.eval).toList:=by simpa using hl
  split at h
  ·rename_i g fs cs hf
   cases h
   obtain ⟨fs',cs',e,h1,h2⟩:=func_inv (opnd_sound ht hf)
   refine ⟨fs'++c.args.map act.eval++cs',by simpa using (h1.append hl).append h2,?_,hs⟩
   simp [resolve,hc,e,Deferred.ofValue,invoke]
  ·rename_i l fs cs hf
   cases h
   obtain ⟨i,h1,e⟩:=yield_inv (opnd_sound ht hf)
   refine ⟨i,c.args.map act.eval,h1,hl',?_,hs⟩
   simp [resolve,hc,e,Deferred.ofValue,invoke]
  ·cases h
 ·rename_i rc name vs hc hv
  have hl:=opnds_sound ht hv
  split at h
  ·rename_i t v hr
   obtain ⟨v',hv',e⟩:=iface_inv (opnd_sound ht hr)
   have hx:((#[Value.iface t v']++c.args.map act.eval).extract 1 (#[Value.iface t v']++c.args.map act.eval).size)=c.args.map act.eval:=by
    apply Array.ext'
    simp [List.extract_eq_take_drop]
    rw [List.take_of_length_le (by simp)]
   have h0:(#[Value.iface t v']++c.args.map act.eval)[0]?=some (.iface t v'):=by rw [Array.getElem?_append_left (by simp)];rfl
   have go:∀ (g:FuncId) (rv:Value),(method (C.P.types.size+Made.depth) t v' name).run C.P w=.ok (g,rv) w →
    (do let d ←resolve act.eval c ty;invoke d.target d.args:Sem Next).run C.P w=(callFunc g (#[rv]++c.args.map act.eval)).run C.P w:=by
    intro g rv hmeth
    simp only [resolve,hc,e,Sem.run_bind,Sem.run_pure,Result.andThen,invoke]
    simp only [h0,hx,callMethod,Sem.run_bind,run_program,Result.andThen]
    rw [hmeth]
   unfold invokeV at h
   split at h
   ·rename_i g rv hm0
    cases h
    obtain ⟨rv',hrv,hrun⟩:=hC.meth t name v g rv hm0 m v' hv'
    exact ⟨_,by simpa using LRel.cons hrv hl,go g rv' (hrun w),hs⟩
   unfold invokeT at h
   split at h
   ·rename_i ti hti
    have hti':=hC.ty _ _ hti
    split at h
    ·rename_i mt hm
     have hm':ti.methods.find? (fun x=>x.name==name)=some mt:=by rw [find_arr];exact hm
     have mk:∀ (g:FuncId) (b:Bool),mt.path.toList=[]→mt.func=some (g,b)→(∀ o,(receiverAt t (.val v') b o).run C.P w=.ok v' w) →
      (do let d ←resolve act.eval c ty;invoke d.target d.args:Sem Next).run C.P w=(callFunc g (#[v']++c.args.map act.eval)).run C.P w:=by
      intro g b hp hg hrec
      have hmeth:∀ q,(method (q+1) t v' name).run C.P w=.ok (g,v') w:=by
       intro q
       simp [method,typeInfo,hti',hm',hp,follow,hg,hrec]
      have hd:C.P.types.size+Made.depth=(C.P.types.size+99)+1:=rfl
      exact go g v' (by rw [hd,hmeth])
     have hargs:LRel m (v::vs) (#[v']++c.args.map act.eval).toList:=by simpa using LRel.cons hv' hl
     split at h
     ·rename_i g e2 hp hg hu
      cases h
      have hun:=hC.un _ _ hu
      exact ⟨_,hargs,mk g true hp hg (fun o=>by simp [receiverAt,run_underlying hun,Place.get]),hs⟩
     ·rename_i g d hp hg hu
      have hun:=hC.un _ _ hu
      cases hd:isPtrD d with
      | true=>simp [hd] at h
      | false =>
       simp only [hd,cond_false,Option.some.injEq,Prod.mk.injEq] at h
       obtain ⟨rfl,rfl⟩:=h
       refine ⟨_,hargs,mk g false hp hg (fun o=>?_),hs⟩
       cases d <;> first | (simp [isPtrD] at hd;done) | simp [receiverAt,run_underlying hun,Place.get]
     ·cases h
    ·cases h
   ·cases h
  ·cases h
 ·cases h
theorem al_new (hC:CtxOK ω C) (ht:TR m n a act) (hB:B≤w.heap.size) {o:Oper} {q:AObj} {f:Nat→Value} (h:alOf o.op C a=some (q,f)):NewOK B m w q f ((execOp act.eval o).run C.P w):=by
 cases ho:o.op
 case alloc=>rw [ho] at h;simp only [execOp,ho];exact alloc_new (a:=a) hC hB h
 case box=>rw [ho] at h;simp only [execOp,ho];exact box_new (C:=C) ht hB h
 case buildSlice=>rw [ho] at h;simp only [execOp,ho];exact buildSlice_new hC ht hB h
 case makeSlice=>rw [ho] at h;simp only [execOp,ho];exact makeSlice_new hC ht hB h
 case convert=>rw [ho] at h;simp only [execOp,ho];exact conv_new hC ht hB h
 case makeMap t r =>
  rw [ho] at h;simp only [execOp,ho]
  cases r
  case none=>exact makeMap_new (a:=a) hB h
  case some=>cases h
 all_goals (rw [ho] at h;cases h)
theorem doAl_sound (hC:CtxOK ω C) (hs:SR B X m s w) (ht:TR m n a act) (hB:B≤w.heap.size) {o:Oper} {r:R} (h:doAl s (alOf o.op C a)=some (r,s')) :
 OpOK C B X m s' w r ((execOp act.eval o).run C.P w):=by
 cases h1:alOf o.op C a with
 | none=>rw [h1] at h;cases h
 | some al =>
  obtain ⟨q,f⟩:=al
  rw [h1] at h
  cases h
  exact NewOK.op hs hB (al_new hC ht hB h1)
theorem range_sound (hC:CtxOK ω C) (hs:SR B X m s w) (ht:TR m n a act) (hB:B≤w.heap.size) {t:TypeId} {x:Operand} {r:R} (h:opRange t x C a s=some (r,s')) :
 OpOK C B X m s' w r ((do let z ←Instr.range t (act.eval x);pure (Next.value z):Sem Next).run C.P w):=by
 unfold opRange at h
 have fin:∀ (o:AObj) (it:Obj) (i:Info),i=⟨w.heap.size,0,0,0,false,0⟩→doAl s (some (o,ptrV))=some (r,s')→ORel m (w.alloc it) i o→(do let z ←Instr.range t (act.eval x);pure (Next.value z):Sem Next).run C.P w=.ok (.value (.pointer (some ⟨w.heap.size,0,none⟩))) (w.alloc it) →
  OpOK C B X m s' w r ((do let z ←Instr.range t (act.eval x);pure (Next.value z):Sem Next).run C.P w):=by
  rintro o it i rfl h ho hr
  cases h
  exact NewOK.op hs hB ⟨_,_,_,hr,rfl,by simp,fun k hk=>Below.heap_alloc w _ k hk,(Below.refl _ _).alloc hB _,ho,fun m' b hb=>ptr_new rfl m' b hb⟩
 split at h
 ·rename_i kt et hu hx
  have hun:=hC.un _ _ hu
  have hv:=nilmap_inv (opnd_sound ht hx)
  exact fin _ (.mapIter none 0 #[] 0) _ rfl h ⟨rfl,none,by simpa using heap_alloc_new w _,.inl ⟨rfl,rfl⟩⟩ (by simp [Instr.range,run_underlying hun,hv])
 ·rename_i kt et b hu hx
  have hun:=hC.un _ _ hu
  obtain ⟨i,hi,hv⟩:=map_inv (opnd_sound ht hx)
  split at h
  ·rename_i es ck hb
   obtain ⟨es',h2,h3,_⟩:=map_obj hs hb hi
   exact fin _ (.mapIter (some i.r) ck #[] ck) _ rfl h ⟨rfl,some i.r,by simpa using heap_alloc_new w _,.inr ⟨b,i,rfl,hi,rfl⟩⟩ (by simp [Instr.range,run_underlying hun,hv,getObj_run h2])
  ·cases h
 ·rename_i q hu hx
  have hun:=hC.un _ _ hu
  have hv:=str_inv (opnd_sound ht hx)
  exact fin _ (.stringIter q 0) _ rfl h ⟨rfl,by simpa using heap_alloc_new w _⟩ (by simp [Instr.range,run_underlying hun,hv])
 ·cases h
theorem cand_rel {es es':List MapEntry} (h:EL m es es') (since:Nat) (seen:List Nat) :
 ((candL es since seen=[none])→candL es' since seen=[none])∧(∀ e,candL es since seen=[some e]→∃ e',candL es' since seen=[some e']∧ERel m e e'):=by
 have filt:∀ (p:Nat→Bool) {l l':List MapEntry},EL m l l'→EL m (l.filter fun e=>p e.born) (l'.filter fun e=>p e.born):=by
  intro p l
  induction l with
  | nil=>intro l' h;cases l' with | nil=>exact h | cons e l'=>exact absurd h.1 (by simp)
  | cons e l ih =>
   intro l' h
   cases l' with
   | nil=>exact absurd h.1 (by simp)
   | cons e' l' =>
    obtain ⟨h1,h2⟩:=h.tail
    have hb:e.born=e'.born:=h1.2.2.2
    have h3:=ih h2
    rw [List.filter_cons,List.filter_cons,hb]
    cases p e'.born with
    | false=>simpa using h3
    | true =>
     simp only [if_true]
     refine ⟨by simp [h3.1],fun k x x' hx hx'=>?_⟩
     cases k with
     | zero=>cases hx;cases hx';exact h1
     | succ k=>exact h3.2 k x x' hx hx'
 have h1:=filt (fun b=>!seen.contains b) h
 have h2:=filt (fun b=>decide (b<since)) h1
 have h3:=filt (fun b=>decide (b ≥ since)) h1
 have gen:∀ {o o' k k':List MapEntry},EL m o o'→EL m k k'→((cond o.isEmpty [none] []++(o++k).map some=[none])→cond o'.isEmpty [none] []++(o'++k').map some=[none]) ∧
  (∀ e,cond o.isEmpty [none] []++(o++k).map some=[some e]→∃ e',cond o'.isEmpty [none] []++(o'++k').map some=[some e']∧ERel m e e'):=by
  intro o o' k k' ho hk
  cases o with
  | nil =>
   obtain rfl:o'=[]:=List.length_eq_zero_iff.1 ho.1.symm
   refine ⟨fun h=>?_,fun e h=>by simp at h⟩
   have:k=[]:=by simpa using h
   subst this
   obtain rfl:k'=[]:=List.length_eq_zero_iff.1 hk.1.symm
   rfl
  | cons x o =>
   cases o' with
   | nil=>exact absurd ho.1 (by simp)
   | cons x' o' =>
    refine ⟨fun h=>by simp at h,fun e h=>?_⟩
    simp at h
    obtain ⟨rfl,rfl,rfl⟩:=h
    obtain rfl:o'=[]:=List.length_eq_zero_iff.1 (by simpa using ho.1.symm)
    obtain rfl:k'=[]:=List.length_eq_zero_iff.1 hk.1.symm
    exact ⟨x',rfl,ho.2 0 _ _ rfl rfl⟩
 exact gen h2 h3
theorem EL.all_born {es es':List MapEntry} (h:EL m es es') (p:Nat→Bool):es.all (fun e=>p e.born)=es'.all (fun e=>p e.born):=by
 induction es generalizing es' with
 | nil=>cases es' with | nil=>rfl | cons e l=>exact absurd h.1 (by simp)
 | cons e l ih =>
  cases es' with
  | nil=>exact absurd h.1 (by simp)
  | cons e' l' =>
   obtain ⟨h1,h2⟩:=h.tail
   have hb:e.born=e'.born:=h1.2.2.2
   rw [List.all_cons,List.all_cons,hb,ih h2]
theorem EL.isEmpty {es es':List MapEntry} (h:EL m es es'):es.isEmpty=es'.isEmpty:=by
 cases es <;> cases es' <;> first | rfl | exact absurd h.1 (by simp)
theorem setIter_sound {b:Nat} {o o':AObj} {it it':Obj} (hs:SR B X m s w) (hb:s.h.get b=some o) (ha:o.alive=true) {i:Info} (hi:m b=some i) (hw:w.heap[i.r]?=some it) (hit:∀ c e f,it≠.cells c e f)
 (ho:∀ w':World,w'.heap[i.r]?=some it'→ORel m w' i o') :
 (setObj i.r it').run C.P w=.ok () {w with heap:=w.heap.setIfInBounds i.r it'}∧SR B X m ⟨s.n,s.h.put b o'⟩ {w with heap:=w.heap.setIfInBounds i.r it'}∧Below B w {w with heap:=w.heap.setIfInBounds i.r it'}:=by
 obtain ⟨_,hB,hlt⟩:=hs.rel b o i hb ha hi
 refine ⟨?_,upd_sound hs hb ha hi (by simp) (fun k hk=>?_) (ho _ ?_),⟨rfl,rfl,rfl,by simp,fun k hk=>?_⟩⟩
 ·cases it <;> first | (simp [setObj,Sem.run,hw];done) | exact absurd rfl (hit _ _ _)
 ·show (w.heap.setIfInBounds i.r _)[k]?=_
  rw [Array.getElem?_setIfInBounds,if_neg (fun e=>hk e.symm)]
 ·show (w.heap.setIfInBounds i.r _)[i.r]?=_
  rw [Array.getElem?_setIfInBounds,if_pos rfl,if_pos hlt]
 ·show (w.heap.setIfInBounds i.r _)[k]?=_
  rw [Array.getElem?_setIfInBounds,if_neg (by omega)]
theorem next_sound (hs:SR B X m s w) (ht:TR m n a act) {x:Operand} {q:Bool} {ty:TypeId} {r:R} (h:opNext x q C a s=some (r,s')) :
 OpOK C B X m s' w r ((do let z ←Instr.next (act.eval x) q ty;pure (Next.value z):Sem Next).run C.P w):=by
 unfold opNext at h
 split at h
 ·rename_i b hx
  obtain ⟨p',⟨_,i,hi,rfl⟩,hv⟩:=ptr_inv (opnd_sound ht hx)
  have hi':m b=some i:=hi
  split at h
  ·rename_i q pos hg
   obtain ⟨⟨hd,hw⟩,hBi,hlt⟩:=hs.rel b _ i hg rfl hi'
   simp only [hd,Nat.add_zero] at hv
   unfold nextSit at h
   cases hp:Nat.blt pos q.size with
   | false =>
    simp only [hp,cond_false,Option.some.injEq,Prod.mk.injEq] at h
    obtain ⟨rfl,rfl⟩:=h
    have hnp:¬ pos<q.size:=fun e=>by rw [(Nat.blt_eq ▸ e:Nat.blt pos q.size=true)] at hp;cases hp
    refine VOK.op (VOK.same hs (v':=.tuple #[.bool false]) ?_ (LRel.tuple (l:=[.bool false]) (l':=[.bool false]) (LRel.plain rfl)))
    simp [Instr.next,hv,getObj,Sem.run,hw,hnp]
   | true =>
    simp only [hp,cond_true,Option.some.injEq,Prod.mk.injEq] at h
    obtain ⟨rfl,rfl⟩:=h
    have hpp:pos<q.size:=by rwa [Nat.blt_eq] at hp
    obtain ⟨k1,k2,k3⟩:=setIter_sound (C:=C) (o':=.sit q (pos+(Utf8.decode q pos).2)) (it':=.stringIter q (pos+(Utf8.decode q pos).2)) hs hg rfl hi' hw (fun _ _ _ e=>by cases e) (fun w' hw'=>⟨hd,hw'⟩)
    refine VOK.op ⟨.tuple #[.bool true,.int .i64 pos,.int .i32 (Utf8.decode q pos).1],_,m,?_,Le.refl _,k2,k3,LRel.tuple (l:=[_,_,_]) (l':=[_,_,_]) (LRel.plain rfl)⟩
    simp [Instr.next,hv,getObj,Sem.run,hw,hpp,k1,goInt]
  ·rename_i si se la hg
   obtain ⟨⟨hd,r',hw,hor⟩,hBi,hlt⟩:=hs.rel b _ i hg rfl hi'
   simp only [hd,Nat.add_zero] at hv
   cases h
   rcases hor with ⟨_,rfl⟩ | ⟨c,j,e,_⟩
   ·refine VOK.op (VOK.same hs (v':=.tuple #[.bool false]) ?_ (LRel.tuple (l:=[.bool false]) (l':=[.bool false]) (LRel.plain rfl)))
    simp [Instr.next,hv,getObj,Sem.run,hw]
   ·cases e
  ·rename_i rr si se la hg
   obtain ⟨⟨hd,r',hw,hor⟩,hBi,hlt⟩:=hs.rel b _ i hg rfl hi'
   simp only [hd,Nat.add_zero] at hv
   rcases hor with ⟨e,_⟩ | ⟨c,j,e,hj,rfl⟩
   ·cases e
   cases e
   split at h
   ·rename_i es ck hm
    obtain ⟨es',h2,h3,_⟩:=map_obj hs hm hj
    unfold nextMit at h
    cases hc:(!se.isEmpty && !es.isEmpty && es.all (fun e=>decide (e.born ≥ la))) with
    | true=>rw [hc] at h;cases h
    | false =>
     rw [hc] at h
     simp only [cond_false] at h
     have hc':(!se.toArray.isEmpty && !es'.toArray.isEmpty && es'.toArray.all (fun e=>decide (e.born ≥ la)))=false:=by
      rw [←hc,h3.isEmpty,h3.all_born (fun b=>decide (b ≥ la))];simp
     have hcand:(if ((es'.toArray.filter fun e=>!se.toArray.contains e.born).filter (·.born<si)).isEmpty then #[none] else #[])++(((es'.toArray.filter fun e=>!se.toArray.contains e.born).filter (·.born<si))++((es'.toArray.filter fun e=>!se.toArray.contains e.born).filter (·.born ≥ si))).map some=(candL es' si se).toArray:=by
      have hA:es'.toArray.filter (fun e=>!se.toArray.contains e.born)=(es'.filter fun e=>!se.contains e.born).toArray:=by simp
      rw [hA]
      dsimp only [candL]
      generalize (es'.filter fun e=>!se.contains e.born)=L
      have hO:L.toArray.filter (fun e=>decide (e.born<si))=(L.filter fun e=>decide (e.born<si)).toArray:=by simp
      have hN:L.toArray.filter (fun e=>decide (e.born ≥ si))=(L.filter fun e=>decide (e.born ≥ si)).toArray:=by simp
      rw [hO,hN]
      generalize (L.filter fun e=>decide (e.born<si))=O
      generalize (L.filter fun e=>decide (e.born ≥ si))=N
      cases O <;> simp
     obtain ⟨c1,c2⟩:=cand_rel h3 si se
     have g1:(getObj i.r).run C.P w=.ok (.mapIter (some j.r) si se.toArray la) w:=by simp [getObj,Sem.run,hw]
     have g2:(getObj j.r).run C.P w=.ok (.map es'.toArray ck) w:=by simp [getObj,Sem.run,h2]
     split at h
     ·rename_i hcl
      cases h
      have hcl':=c1 hcl
      refine VOK.op (VOK.same hs (v':=.tuple #[.bool false]) ?_ (LRel.tuple (l:=[.bool false]) (l':=[.bool false]) (LRel.plain rfl)))
      unfold Instr.next
      rw [hv]
      simp only [Sem.run_bind,g1,g2,Result.andThen]
      rw [if_neg (by rw [hc'];simp),hcand,hcl']
      simp [choose,Sem.run,Question.forced]
     ·rename_i e hcl
      cases h
      obtain ⟨e',hcl',he⟩:=c2 e hcl
      obtain ⟨k1,k2,k3⟩:=setIter_sound (C:=C) (o':=.mit (some rr) si (se++[e.born]) ck) (it':=.mapIter (some j.r) si (se++[e'.born]).toArray ck) hs hg rfl hi' hw (fun _ _ _ e=>by cases e)
       (fun w' hw'=>⟨hd,some j.r,by rw [hw',he.2.2.2],.inr ⟨rr,j,rfl,hj,rfl⟩⟩)
      refine VOK.op ⟨.tuple #[.bool true,e'.key,e'.val],_,m,?_,Le.refl _,k2,k3,LRel.tuple (l:=[_,_,_]) (l':=[_,_,_]) (LRel.cons (.plain _ rfl) (LRel.cons ?_ (LRel.cons he.2.2.1 (LRel.nil m))))⟩
      ·unfold Instr.next
       rw [hv]
       simp only [Sem.run_bind,g1,g2,Result.andThen]
       rw [if_neg (by rw [hc'];simp),hcand,hcl']
       simp [choose,Sem.run,Question.forced,k1]
      ·rw [←he.1];exact .plain _ he.2.1
     ·cases h
   ·cases h
  ·cases h
 ·cases h
theorem find_born {es es':List MapEntry} (h:EL m es es') (st:Nat) {e:MapEntry} (hf:es.find? (fun e=>e.born==st)=some e):∃ e',es'.find? (fun e=>e.born==st)=some e'∧ERel m e e':=by
 induction es generalizing es' with
 | nil=>cases hf
 | cons x l ih =>
  cases es' with
  | nil=>exact absurd h.1 (by simp)
  | cons x' l' =>
   obtain ⟨h1,h2⟩:=h.tail
   have hb:x.born=x'.born:=h1.2.2.2
   rw [List.find?_cons] at hf ⊢
   rw [←hb]
   cases hx:(x.born==st) with
   | true=>rw [hx] at hf;cases hf;exact ⟨x',rfl,h1⟩
   | false=>rw [hx] at hf;exact ih h2 hf
theorem entry_sound (hs:SR B X m s w) (ht:TR m n a act) {x:Operand} {r:R} (h:opEntry x C a s=some (r,s')) :
 OpOK C B X m s' w r ((do let z ←Instr.entry (act.eval x);pure (Next.value z):Sem Next).run C.P w):=by
 unfold opEntry at h
 split at h
 ·rename_i b hx
  obtain ⟨p',⟨_,i,hi,rfl⟩,hv⟩:=ptr_inv (opnd_sound ht hx)
  have hi':m b=some i:=hi
  split at h
  ·rename_i rr si se la hg
   obtain ⟨⟨hd,r',hw,hor⟩,hBi,hlt⟩:=hs.rel b _ i hg rfl hi'
   simp only [hd,Nat.add_zero] at hv
   rcases hor with ⟨e,_⟩ | ⟨c,j,e,hj,rfl⟩
   ·cases e
   cases e
   split at h
   ·rename_i st es ck hse hm
    cases hc:Nat.beq ck la with
    | false=>rw [hc] at h;cases h
    | true =>
     rw [hc] at h
     simp only [cond_true] at h
     obtain rfl:=Nat.eq_of_beq_eq_true hc
     split at h
     ·rename_i e he
      cases h
      obtain ⟨es',h2,h3,_⟩:=map_obj hs hm hj
      obtain ⟨e',hf',her⟩:=find_born h3 st he
      refine VOK.op (VOK.same hs (v':=.tuple #[e'.key,e'.val]) ?_ (LRel.tuple (l:=[_,_]) (l':=[_,_]) (LRel.cons ?_ (LRel.cons her.2.2.1 (LRel.nil m)))))
      ·have hb:se.toArray.back?=some st:=by rw [←hse];simp
       simp [Instr.entry,hv,getObj,Sem.run,hw,h2,hb,hf']
      ·rw [←her.1];exact .plain _ her.2.1
     ·cases h
   ·cases h
  ·cases h
 ·cases h
theorem aop_sound (hC:CtxOK ω C) (hs:SR B X m s w) (ht:TR m n a act) (hBs:Bs ω C B w) {o:Oper} {r:R} (h:aop C o a s=some (r,s')) :
 OpOK C B X m s' w r ((execOp act.eval o).run C.P w):=by
 have hB:=hBs.le
 unfold aop at h
 cases ho:o.op
 case move=>rw [ho] at h;simp only [execOp,ho];exact move_sound hs ht h
 case assign=>rw [ho] at h;simp only [execOp,ho];exact move_sound hs ht h
 case pick=>rw [ho] at h;simp only [execOp,ho];exact pick_sound hs ht h
 case alloc=>rw [ho] at h;exact doAl_sound hC hs ht hB (by rw [ho];exact h)
 case box=>rw [ho] at h;exact doAl_sound hC hs ht hB (by rw [ho];exact h)
 case build=>rw [ho] at h;simp only [execOp,ho];exact build_sound hC hs ht h
 case buildSlice=>rw [ho] at h;exact doAl_sound hC hs ht hB (by rw [ho];exact h)
 case load=>rw [ho] at h;simp only [execOp,ho];exact load_sound hC hs ht hBs h
 case store=>rw [ho] at h;simp only [execOp,ho];exact store_sound hC hs ht h
 case binOp=>rw [ho] at h;simp only [execOp,ho];exact bin_sound hC hs ht h
 case unOp=>rw [ho] at h;simp only [execOp,ho];exact unOp_sound hs ht h
 case convert src dst x =>
  rw [ho] at h
  cases hc:alConv src dst x C a with
  | some al=>exact doAl_sound hC hs ht hB (by rw [ho];show doAl s (alConv src dst x C a)=_;have h':opConvert src dst x C a s=some (r,s'):=h;unfold opConvert at h';rw [hc] at h' ⊢;exact h')
  | none=>simp only [execOp,ho];exact conv2_sound hC hs ht (by have h':opConvert src dst x C a s=some (r,s'):=h;unfold opConvert at h';rw [hc] at h';exact h')
 case makeInterface=>rw [ho] at h;simp only [execOp,ho];exact makeInterface_sound hC hs ht h
 case makeSlice=>rw [ho] at h;exact doAl_sound hC hs ht hB (by rw [ho];exact h)
 case slice=>rw [ho] at h;simp only [execOp,ho];exact slice_sound hC hs ht h
 case fieldAddr=>rw [ho] at h;simp only [execOp,ho];exact fieldAddr_sound hC hs ht h
 case field=>rw [ho] at h;simp only [execOp,ho];exact field_sound hC hs ht h
 case indexAddr=>rw [ho] at h;simp only [execOp,ho];exact indexAddr_sound hC hs ht h
 case index=>rw [ho] at h;simp only [execOp,ho];exact index_sound hC hs ht h
 case lookup=>rw [ho] at h;simp only [execOp,ho];exact lookup_sound hC hs ht h
 case mapUpdate=>rw [ho] at h;simp only [execOp,ho];exact mapUpdate_sound hC hs ht h
 case insert=>rw [ho] at h;simp only [execOp,ho];exact mapUpdate_sound hC hs ht h
 case typeAssert=>rw [ho] at h;simp only [execOp,ho];exact typeAssert_sound hC hs ht h
 case extract=>rw [ho] at h;simp only [execOp,ho];exact extract_sound hs ht h
 case call=>rw [ho] at h;simp only [execOp,ho];exact call_sound hC hs ht hBs h
 case nilCheck=>rw [ho] at h;exact nilCheck_sound hs ht o ho h
 case range=>rw [ho] at h;simp only [execOp,ho];exact range_sound hC hs ht hB h
 case next=>rw [ho] at h;simp only [execOp,ho];exact next_sound hs ht h
 case entry=>rw [ho] at h;simp only [execOp,ho];exact entry_sound hs ht h
 case makeFunc f fs cs =>
  rw [ho] at h;simp only [execOp,ho]
  cases f
  case func g=>exact makeFunc_sound hs ht h
  all_goals (cases h)
 case makeMap t r =>
  rw [ho] at h
  cases r
  case none=>exact doAl_sound hC hs ht hB (by rw [ho];exact h)
  case some=>cases h
 all_goals (rw [ho] at h;cases h)
end
end Go.Proofs.YtekajggjoeimoaaGreatDoor.Ev
namespace Go.Proofs.YtekajggjoeimoaaGreatDoor.Ev
open Go.RowKit
variable {ω:Nat→Value}
section
variable {C:Ctx} {B:Nat} {X:Aux} {m:M ω} {s s':AS} {w:World} {a a':T Value} {act:Act} {n:Nat}
def Agree (op:Op) (a a':T Value):Prop:=∀ x∈op.operands,opnd a x=opnd a' x
theorem opnds_congr {l:List Operand} (h:∀ x∈l,opnd a x=opnd a' x):opnds a l=opnds a' l:=by
 induction l with
 | nil=>rfl
 | cons x l ih=>simp only [opnds];rw [h x (by simp),ih (fun y hy=>h y (by simp [hy]))]
theorem parts_congr {l:List (Nat × Operand)} (h:∀ x∈l.map (·.2),opnd a x=opnd a' x):parts a l=parts a' l:=by
 induction l with
 | nil=>rfl
 | cons x l ih=>obtain ⟨i,x⟩:=x;simp only [parts];rw [h x (by simp),ih (fun y hy=>h y (by simp only [List.map_cons,List.mem_cons];exact .inr hy))]
theorem bnd_congr {x:Option Operand} (h:∀ y∈x,opnd a y=opnd a' y):bnd a x=bnd a' x:=by
 cases x with
 | none=>rfl
 | some x=>simp only [bnd];rw [h x rfl]
theorem al_congr {op:Op} (h:Agree op a a'):alOf op C a=alOf op C a':=by
 cases op <;> unfold Agree at h <;> simp only [Op.operands] at h <;> unfold alOf <;> try rfl
 case box t x=>simp only [alBox];rw [h x (by simp)]
 case buildSlice t k ps=>simp only [alBuildSlice];rw [parts_congr (a':=a') (fun x hx=>h x (by simpa using hx))]
 case convert s d x=>simp only [alConv];rw [h x (by simp)]
 case makeMap t r=>cases r <;> rfl
 case makeSlice t l c=>simp only [alMakeSlice];rw [h l (by simp),h c (by simp)]
theorem aop_congr {op:Op} (h:Agree op a a'):aopK op C a s=aopK op C a' s:=by
 have hal:=al_congr (C:=C) h
 cases op <;> unfold Agree at h <;> simp only [Op.operands] at h <;> unfold aopK <;> try rfl
 case move x=>simp only [opMove];rw [h x (by simp)]
 case assign x=>simp only [opMove];rw [h x (by simp)]
 case pick c x y=>simp only [opPick];rw [h c (by simp),h x (by simp),h y (by simp)]
 case box t x=>exact congrArg (doAl s) hal
 case build t ps=>simp only [opBuild];rw [parts_congr (a':=a') (fun x hx=>h x (by simpa using hx))]
 case buildSlice t k ps=>exact congrArg (doAl s) hal
 case insert t x k v=>simp only [opMapUpdate];rw [h x (by simp),h k (by simp),h v (by simp)]
 case load t x=>cases x <;> simp only [opLoad,isGlob,loadX] <;> first | rfl | (rw [h _ (by simp)])
 case store t x y=>simp only [opStore];rw [h x (by simp),h y (by simp)]
 case nilCheck x=>simp only [opNilCheck];rw [h x (by simp)]
 case binOp op t x y z=>simp only [opBinOp];rw [h x (by simp),h y (by simp)]
 case unOp op t x=>simp only [opUnOp];rw [h x (by simp)]
 case convert sr d x =>
  have e:alConv sr d x C a=alConv sr d x C a':=hal
  simp only [opConvert];rw [e];cases alConv sr d x C a' with
  | some al=>rfl
  | none=>simp only [opConv2];rw [h x (by simp)]
 case makeInterface t x=>simp only [opMakeInterface];rw [h x (by simp)]
 case makeFunc f fs cs =>
  cases f <;> try rfl
  simp only [opMakeFunc]
  rw [opnds_congr (a':=a') (l:=fs.toList) (fun x hx=>h x (by simp at hx ⊢;exact .inl hx)),opnds_congr (a':=a') (l:=cs.toList) (fun x hx=>h x (by simp at hx ⊢;exact .inr hx))]
 case makeMap t r=>cases r <;> rfl
 case makeSlice t l c=>exact congrArg (doAl s) hal
 case slice t x lo hi mx =>
  simp only [opSlice]
  rw [h x (by simp),bnd_congr (a':=a') (x:=lo) (fun y hy=>h y (by cases lo <;> simp_all)),bnd_congr (a':=a') (x:=hi) (fun y hy=>h y (by cases hi <;> simp_all)),bnd_congr (a':=a') (x:=mx) (fun y hy=>h y (by cases mx <;> simp_all))]
 case fieldAddr t x f=>simp only [opFieldAddr];rw [h x (by simp)]
 case field t x f=>simp only [opField];rw [h x (by simp)]
 case indexAddr t x i=>simp only [opIndexAddr];rw [h x (by simp),h i (by simp)]
 case index t x i=>simp only [opIndex];rw [h x (by simp),h i (by simp)]
 case lookup t x k ok=>simp only [opLookup];rw [h x (by simp),h k (by simp)]
 case mapUpdate t x k v=>simp only [opMapUpdate];rw [h x (by simp),h k (by simp),h v (by simp)]
 case range t x=>simp only [opRange];rw [h x (by simp)]
 case next x q=>simp only [opNext];rw [h x (by simp)]
 case entry x=>simp only [opEntry];rw [h x (by simp)]
 case typeAssert x xt t ok=>simp only [opTypeAssert];rw [h x (by simp)]
 case extract x i=>simp only [opExtract];rw [h x (by simp)]
 case call c =>
  simp only [opCall]
  rw [opnds_congr (a':=a') (l:=c.args.toList) (fun x hx=>h x (by simp [Call.operands];exact .inr (by simpa using hx)))]
  cases hc:c.callee with
  | builtin b=>cases opnds a' c.args.toList <;> rfl
  | value f =>
   have e:=h f (by simp [Call.operands,hc])
   cases opnds a' c.args.toList with
   | none=>rfl
   | some vs=>dsimp only;rw [e]
  | invoke r nm =>
   have e:=h r (by simp [Call.operands,hc])
   cases opnds a' c.args.toList with
   | none=>rfl
   | some vs=>dsimp only;rw [e]
theorem aop_agree {o:Oper} (h:Agree o.op a a'):aop C o a s=aop C o a' s:=aop_congr h
theorem failA_still {t:TypeId} {ok:Bool} {r:R} (he:failA C t ok s=some (r,s')):s'=s∧∃ v,r=.val v:=by
 simp only [failA,cond_eq_ite] at he
 (repeat' split at he) <;> cases he
 exact ⟨rfl,_,rfl⟩
theorem still_same {o:Oper} (h:stillB C o.op=true) (hal:alOf o.op C a=none) {r:R} (he:aop C o a s=some (r,s')):s'=s∧∃ v,r=.val v:=by
 have mv:∀ {x:Operand},opMove x C a s=some (r,s')→s'=s∧∃ v,r=.val v:=by
  intro x he
  unfold opMove at he
  cases hx:opnd a x with
  | none=>rw [hx] at he;cases he
  | some v=>rw [hx] at he;cases he;exact ⟨rfl,_,rfl⟩
 unfold aop at he
 cases ho:o.op <;> rw [ho] at h he hal <;> first | (cases h;done) | skip
 case move x=>exact mv he
 case assign x=>exact mv he
 case makeFunc f fs cs =>
  cases f <;> first | (cases he;done) | skip
  have he':opMakeFunc _ fs cs C a s=some (r,s'):=he
  simp only [opMakeFunc] at he'
  (repeat' split at he') <;> cases he'
  exact ⟨rfl,_,rfl⟩
 case typeAssert x xt t ok =>
  have he':opTypeAssert x t ok C a s=some (r,s'):=he
  simp only [opTypeAssert,cond_eq_ite] at he'
  (repeat' split at he') <;> first | (cases he';done) | (cases he';exact ⟨rfl,_,rfl⟩) | exact failA_still he'
 case convert sr d x =>
  have he':opConvert sr d x C a s=some (r,s'):=he
  have hn:alConv sr d x C a=none:=hal
  unfold opConvert at he'
  rw [hn] at he'
  simp only [opConv2] at he'
  split at he'
  ·split at he'
   ·rename_i v r' s2 hc
    cases he'
    refine ⟨?_,_,rfl⟩
    unfold convV at hc
    rename_i z hz0
    cases hch:isChan z with
    | true =>
     rw [hch] at hc
     simp only [cond_true,convTok] at hc
     split at hc <;> cases hc
     rfl
    | false =>
    rw [hch] at hc
    simp only [cond_false] at hc
    split at hc
    ·split at hc
     ·simp only [convInt] at hc
      (repeat' split at hc) <;> cases hc <;> rfl
     ·simp only [convStr,cond_eq_ite] at hc
      (repeat' split at hc) <;> cases hc <;> rfl
     ·simp only [convSl,cond_eq_ite] at hc
      (repeat' split at hc) <;> cases hc <;> rfl
     ·cases hc
    ·cases hc
   ·cases he'
  ·cases he'
 case call c =>
  have hb:stillC c.callee=true:=h
  have he':opCall c C a s=some (r,s'):=he
  unfold opCall at he'
  split at he'
  ·rename_i b vs hc hv
   rw [hc] at hb
   have hb':stillBi b=true:=hb
   cases b <;> first | (cases hb';done) | skip
   all_goals
    unfold builtinV builtinK at he'
    simp only [biLen,lenTok,biCap,biMinmax,cond_eq_ite] at he'
    (repeat' split at he') <;> first | (cases he';done) | (cases he';exact ⟨rfl,_,rfl⟩)
  ·rename_i hc _;rw [hc] at hb;cases hb
  ·rename_i hc _;rw [hc] at hb;cases hb
  ·cases he'
 all_goals
  simp only [aopK,opPick,opBuild,opLoad,loadG,loadX,opNilCheck,opBinOp,opUnOp,opMakeInterface,opSlice,opFieldAddr,opField,opIndexAddr,opIndex,opLookup,opExtract,cond_eq_ite] at he
  (repeat' split at he) <;> first | (cases he;done) | (cases he;exact ⟨rfl,_,rfl⟩)
theorem eqL_sound {f:Value→Value→Bool} (hf:∀ x y,f x y=true→x=y):∀ {l k:List Value},eqL f l k=true→l=k
 | [],[],_=>rfl
 | [],_::_,h=>by cases h
 | _::_,[],h=>by cases h
 | x::l,y::k,h=>by
  simp only [eqL] at h
  cases hx:f x y with
  | false=>rw [hx] at h;cases h
  | true=>rw [hx] at h;rw [hf x y hx,eqL_sound hf h]
theorem eqBy_sound:∀ {l k:List UInt8},eqBy l k=true→l=k
 | [],[],_=>rfl
 | [],_::_,h=>by cases h
 | _::_,[],h=>by cases h
 | x::l,y::k,h=>by
  simp only [eqBy] at h
  cases hx:Nat.beq x.toNat y.toNat with
  | false=>rw [hx] at h;cases h
  | true=>rw [hx] at h;rw [eqBy_sound h,UInt8.toNat_inj.1 (Nat.eq_of_beq_eq_true hx)]
theorem eqA_sound {p q:Addr} (h:eqA p q=true):p=q:=by
 obtain ⟨b,o,sp⟩:=p
 obtain ⟨c,d,sq⟩:=q
 unfold eqA at h
 split at h
 ·rename_i h1 h2
  simp only at h1 h2
  subst h1;subst h2
  rw [Bool.and_eq_true] at h
  have e1:=Nat.eq_of_beq_eq_true h.1
  have e2:=Nat.eq_of_beq_eq_true h.2
  simp only at e1 e2
  rw [e1,e2]
 ·cases h
theorem eqI_sound {p q:Int} (h:eqI p q=true):p=q:=by
 cases p <;> cases q <;> simp only [eqI] at h <;> first | (rw [Nat.eq_of_beq_eq_true h];done) | (cases h;done)
theorem veq_sound:∀ (k:Nat) (x y:Value),veq k x y=true→x=y
 | 0,_,_,h=>by cases h
 | k+1,x,y,h=>by
  have ih:=veq_sound k
  unfold veq at h
  split at h
  ·rename_i p q;cases p <;> cases q <;> first | rfl | (cases h;done)
  ·rw [Bool.and_eq_true] at h;rw [of_decide_eq_true h.1,eqI_sound h.2]
  ·rename_i p q
   have e:=eqBy_sound h
   congr 1
   cases p;cases q
   simp only at e
   congr 1
   exact Array.toList_inj.1 e
  ·rfl
  ·rfl
  ·rw [Nat.eq_of_beq_eq_true h]
  ·rfl
  ·rfl
  ·rw [eqA_sound h]
  ·rw [Bool.and_eq_true] at h;rw [Nat.eq_of_beq_eq_true h.1,Nat.eq_of_beq_eq_true h.2]
  ·rw [Bool.and_eq_true,Bool.and_eq_true] at h;rw [eqA_sound h.1,Nat.eq_of_beq_eq_true h.2.1,Nat.eq_of_beq_eq_true h.2.2]
  ·rfl
  ·rw [Nat.eq_of_beq_eq_true h]
  ·rw [Bool.and_eq_true] at h;rw [Nat.eq_of_beq_eq_true h.1,ih _ _ h.2]
  ·rw [Array.toList_inj.1 (eqL_sound ih h)]
  ·rw [Array.toList_inj.1 (eqL_sound ih h)]
  ·rw [Bool.and_eq_true,Bool.and_eq_true] at h
   rw [Nat.eq_of_beq_eq_true h.1,Array.toList_inj.1 (eqL_sound ih h.2.1),Array.toList_inj.1 (eqL_sound ih h.2.2)]
  ·cases h
theorem dstIs_sound {d:Option Tmp} {v:Value} (h:dstIs a d v=true) {t:Tmp} (ht:d=some t):a.get t=some v:=by
 subst ht
 simp only [dstIs] at h
 split at h
 ·rename_i u hu;rw [hu,veq_sound _ _ _ h]
 ·cases h
theorem bitB_eq (D i:Nat):bitB D i=D.testBit i:=by
 unfold bitB Nat.testBit
 show Nat.beq ((D >>> i) &&& 1) 1=(1 &&& (D >>> i) != 0)
 rw [Nat.and_comm,Nat.one_and_eq_mod_two]
 rcases Nat.mod_two_eq_zero_or_one (D >>> i) with h | h <;> rw [h] <;> rfl
theorem setB_bit (D i j:Nat):bitB (setB D i) j=(decide (j=i) || bitB D j):=by
 rw [bitB_eq,bitB_eq]
 unfold setB
 show (D ||| (1 <<< i)).testBit j=_
 rw [Nat.testBit_or,Nat.one_shiftLeft,Nat.testBit_two_pow,Bool.or_comm]
 congr 1
 exact decide_eq_decide.2 eq_comm
theorem setB_same (D i:Nat):bitB (setB D i) i=true:=by rw [setB_bit];simp
theorem setB_old {D i j:Nat} (h:bitB D j=true):bitB (setB D i) j=true:=by rw [setB_bit,h];simp
theorem setB_inv {D i j:Nat} (h:bitB (setB D i) j=true):j=i∨bitB D j=true:=by
 rw [setB_bit,Bool.or_eq_true] at h
 exact h.imp (fun e=>of_decide_eq_true e) id
theorem bitB_zero (i:Nat):bitB 0 i=false:=by rw [bitB_eq];simp
theorem predsIn_iff {D:Nat} {es:List Edge}:predsIn D es=true↔∀ e∈es,Region.binds .any e=true→bitB D e.on=true:=by
 induction es with
 | nil=>simp [predsIn]
 | cons e es ih =>
  simp only [predsIn,List.forall_mem_cons,←ih]
  cases Region.binds .any e <;> cases bitB D e.on <;> simp
theorem ahead_iff {i:Nat} {es:List Edge}:ahead i es=true↔∀ e∈es,Region.binds .any e=true→e.on<i:=by
 induction es with
 | nil=>simp [ahead]
 | cons e es ih =>
  simp only [ahead,List.forall_mem_cons,←ih]
  have hb:(Nat.blt e.on i=true)↔e.on<i:=by rw [Nat.blt_eq]
  cases Region.binds .any e <;> cases hc:Nat.blt e.on i <;> simp <;> rw [hc] at hb <;> simp at hb <;> first | omega | (intros;omega)
end
end Go.Proofs.YtekajggjoeimoaaGreatDoor.Ev
namespace Go.Proofs.YtekajggjoeimoaaGreatDoor.Ev
open Go.RowKit
variable {ω:Nat→Value}
def RelV (B:Nat) (X:Aux) (m:M ω) (s':AS) (w:World) (v:Value) (v':Value) (w':World):Prop:=∃ m',Le m m'∧SR B X m' s' w'∧VRel m' v v'∧Below B w w'
def FOf (q:Bool) (F:Fence):Prop:=(q=false∧F=Fence.wide)∨(q=true∧∃ l,F=Fence.wide.inRound l)
section
variable {q:Bool} {F:Fence}
theorem FOf.fn (h:FOf q F) (f:FuncId):F.fn f:=by rcases h with ⟨_,rfl⟩ | ⟨_,l,rfl⟩ <;> trivial
theorem FOf.depth (h:FOf q F):F.depth=none:=by rcases h with ⟨_,rfl⟩ | ⟨_,l,rfl⟩ <;> rfl
theorem FOf.deep (h:FOf q F) (n:Nat):F.depth.isSome=true→1≤n:=fun e=>by rw [h.depth] at e;cases e
theorem FOf.calls (h:FOf q F) {n:Nat} {P:Program} {f:FuncId} {args:Array Value} {w:World} {R:Ending→World→Prop} (hc:CallsIn Fence.wide n P f args w R):CallsIn F n P f args w R:=by
 rcases h with ⟨_,rfl⟩ | ⟨_,l,rfl⟩
 ·exact hc
 ·exact hc
theorem FOf.inRound (h:FOf q F) (l:Nat):F.inRound l=Fence.wide.inRound l:=by rcases h with ⟨_,rfl⟩ | ⟨_,l',rfl⟩ <;> rfl
theorem FOf.round (l:Nat):FOf true (Fence.wide.inRound l):=.inr ⟨rfl,l,rfl⟩
end
inductive MK (K0:Nat→Option Obj):(Nat→Option Obj)→List Deferred→Prop
 | nil:MK K0 K0 []
 | cons (D:Nat) (K:Nat→Option Obj) (ds:List Deferred) (h:MK K0 K ds) (hD:K D=none):MK K0 (fun r=>if r=D then some (.deferred (some [])) else K r) ({target:=.collected D,args:=#[]} :: ds)
def exitOf:Xt→Exit
 | .normal=>.normal
 | .exit id=>.exit id
 | .ret=>.ret
def PostC (B:Nat) (X:Aux) (m:M ω) (N:Nat) (x:Xt) (a':T Value) (s':AS) (w:World) (K0:Nat→Option Obj) (e:Exit) (act':Act) (w':World):Prop :=
 e=exitOf x∧∃ X' m',X'.G=X.G∧MK K0 X'.K act'.defers∧Le m m'∧SR B X' m' s' w'∧TR m' N a' act'∧Below B w w'
def CallOK (C:Ctx) (g:FuncId) (args:Array Value) (w:World) (R:Value→World→Prop):Prop :=
 ∀ (q:Bool) (F:Fence) (n:Nat) (o:Oper) (act:Act) (K:Act→World→Prop) (Q:Exit→Act→World→Prop),FOf q F→(∀ v' w',R v' w'→K (act.put o.dst v') w')→o.uponIn F n C.P act K Q ((callFunc g args).run C.P w)
structure COK (ω:Nat→Value) (C:Ctx):Prop where
 ok:CtxOK ω C
 mixed:C.P.follows .mixedOrders=true
 sp:∀ g k,C.sp g=some k→∀ vs s v s',k vs s=some (v,s')→∀ (B:Nat) (X:Aux) (m:M ω) (w:World) (args:Array Value),SR B X m s w→LRel m vs args.toList→Bs ω C B w→CallOK C g args w (RelV B X m s' w v)
def SndC (ω:Nat→Value) (C:Ctx) (ih:Fns):Prop:=∀ q N c a s x a' s',ih.c q N c a s=some (x,a',s')→∀ (B:Nat) (X:Aux) (m:M ω) (act:Act) (w:World) (F:Fence) (n:Nat) (K0:Nat→Option Obj),
 FOf q F→SR B X m s w→TR m N a act→MK K0 X.K act.defers→Bs ω C B w→c.wpIn F n C.P (PostC B X m N x a' s' w K0) act w
def Ret (B:Nat) (X:Aux) (m:M ω) (s':AS) (w:World) (v:Value) (e:Ending) (w':World):Prop:=∃ v',e=.returned v'∧RelV B X m s' w v v' w'
def SndF (ω:Nat→Value) (C:Ctx) (ih:Fns):Prop:=∀ g vs s v s',ih.f g vs s=some (v,s')→∀ (B:Nat) (X:Aux) (m:M ω) (w:World) (args:Array Value),SR B X m s w→LRel m vs args.toList→Bs ω C B w →
 CallOK C g args w (RelV B X m s' w v)∧(C.sp g=none→(∀ args w,(callFunc g args).run C.P w=.ok (.enter g args) w)∧∀ n,CallsIn Fence.wide n C.P g args w (Ret B X m s' w v))
section
variable {C:Ctx} {B:Nat} {X:Aux} {m:M ω} {s s':AS} {w:World} {a a':T Value} {act:Act} {n N:Nat} {ih:Fns}
theorem undef_rel:VRel m undef undef:=by
 unfold undef
 first
  | exact .plain _ rfl
  | exact LRel.tuple (l:=[]) (l':=[]) (LRel.nil m)
theorem calls_ok {g:FuncId} {args:Array Value} {v:Value} (he:(callFunc g args).run C.P w=.ok (.enter g args) w) (h:∀ n,CallsIn Fence.wide n C.P g args w (Ret B X m s' w v)):CallOK C g args w (RelV B X m s' w v):=by
 intro q F n o act K Q hF hK
 rw [he,Oper.uponIn_enter]
 refine ⟨hF.deep n,(hF.calls (h (n-1))).mono ?_⟩
 rintro e w' ⟨v',rfl,hr⟩
 exact hK v' w' hr
theorem getD_set (tm:Array Value) (p k:Nat) (v:Value) (hp:p<tm.size):(tm.setIfInBounds p v).getD k undef=if k=p then v else tm.getD k undef:=by
 by_cases h:k=p
 ·subst h;simp [hp]
 ·rw [if_neg h]
  simp only [Array.getD_eq_getD_getElem?,Array.getElem?_setIfInBounds_ne (fun e=>h e.symm)]
theorem rdArgs_sound:∀ {ps:List Tmp} {vs l:List Value} {t:T Value} {tm:Array Value},rdArgs N ps vs t=some a→LRel m vs l→tm.size=N→(∀ k,VRel m ((t.get k).getD undef) (tm.getD k undef)) →
 ps.length=l.length∧((ps.zip l).foldl (fun tm (x:Tmp × Value)=>tm.setIfInBounds x.1 x.2) tm).size=N∧∀ k,VRel m ((a.get k).getD undef) (((ps.zip l).foldl (fun tm (x:Tmp × Value)=>tm.setIfInBounds x.1 x.2) tm).getD k undef)
 | [],[],[],t,tm,h,hl,hs,hr=>by cases h;exact ⟨rfl,hs,hr⟩
 | [],[],_::_,t,tm,h,hl,hs,hr=>absurd hl.1 (by simp)
 | [],_::_,_,t,tm,h,hl,hs,hr=>by cases h
 | _::_,[],_,t,tm,h,hl,hs,hr=>by cases h
 | _::_,_::_,[],t,tm,h,hl,hs,hr=>absurd hl.1 (by simp)
 | p::ps,v::vs,u::l,t,tm,h,hl,hs,hr=>by
  simp only [rdArgs] at h
  cases hp:Nat.blt p N with
  | false=>rw [hp] at h;cases h
  | true =>
   rw [hp] at h
   rw [Nat.blt_eq] at hp
   obtain ⟨h1,h2⟩:=hl.tail
   have:=rdArgs_sound (tm:=tm.setIfInBounds p u) h h2 (by simpa using hs) (fun k=>by
    rw [T.get_put,getD_set _ _ _ _ (by omega)]
    by_cases hk:k=p
    ·rw [if_pos hk,if_pos hk];exact h1
    ·rw [if_neg hk,if_neg hk];exact hr k)
   exact ⟨by simp [this.1],this.2⟩
theorem MK_le {K0 K:Nat→Option Obj} {ds:List Deferred} (h:MK K0 K ds):∀ (d:Nat) (k:Obj),K0 d=some k→K d=some k:=by
 induction h with
 | nil=>exact fun d k h=>h
 | cons D K ds _ hD ih =>
  intro d k hk
  have:=ih d k hk
  show (if d=D then _ else K d)=some k
  rw [if_neg (fun e=>by rw [e,hD] at this;cases this)]
  exact this
theorem setLoop_sound {b:Nat} {t:T Value} {nt:Nat} {ps:List Tmp} {asg bd:Code} {st st':LSt} (hs:SR B X m s w) (hb:s.h.get b=some (.loop t nt ps asg bd st)) {i:Info} (hi:m b=some i) {r r':Loop}
 (hw:w.heap[i.r]?=some (.loop r)) (hr:r'.params=r.params∧r'.assign=r.assign∧r'.body=r.body∧r'.tmps=r.tmps) (hst:st'.is r') :
 SR B X m ⟨s.n,s.h.put b (.loop t nt ps asg bd st')⟩ (w.putObj i.r (.loop r'))∧Below B w (w.putObj i.r (.loop r')):=by
 obtain ⟨⟨r0,h0,h1,h2,h3,h4,h5,h6⟩,hB,hlt⟩:=hs.rel b _ i hb rfl hi
 rw [hw] at h0;cases h0
 refine ⟨upd_sound hs hb rfl hi (by simp [World.putObj]) (fun k hk=>World.putObj_heap_other hk) ⟨r',World.putObj_heap_same hlt,hr.1.trans h1,hr.2.1.trans h2,hr.2.2.1.trans h3,by rw [hr.2.2.2];exact h4,hst,fun k=>by rw [hr.2.2.2];exact h6 k⟩,
  ⟨rfl,rfl,rfl,by simp [World.putObj],fun k hk=>World.putObj_heap_other (by omega)⟩⟩
theorem round_sound (hc:SndC ω C ih) (hs:SR B X m s w) (hB:Bs ω C B w) {l:Nat} {vs:List Value} {v:Value} (h:rdRun ih l vs s=some (v,s')) {i:Info} (hi:m l=some i) {args:Array Value} (hl:LRel m vs args.toList)
 {q:Bool} {F:Fence} (hF:FOf q F) {o:Oper} {K:Act→World→Prop} {Q:Exit→Act→World→Prop} (hK:∀ v' w',RelV B X m s' w v v' w'→K (act.put o.dst v') w') :
 o.uponIn F n C.P act K Q ((Instr.yield i.r args).run C.P w):=by
 unfold rdRun at h
 split at h
 ·rename_i t nt ps asg bd hg
  obtain ⟨⟨r,h0,h1,h2,h3,h4,h5,h6⟩,hBi,hlt⟩:=hs.rel l _ i hg rfl hi
  split at h
  ·rename_i a1 ha1
   split at h
   ·rename_i a2 s2 ha2
    obtain ⟨e1,e2,e3⟩:=rdArgs_sound ha1 hl h4 h6
    rw [run_yield (P:=C.P) h0 (by rw [h1];simpa using e1.symm),Oper.uponIn_round]
    refine ⟨hF.deep n,roundIn_of_wpIn (hF.fn _) ?_⟩
    rw [hF.inRound,h2,h3,h1]
    have hfold:(ps.toArray.zip args).foldl (fun tm (x:Tmp × Value)=>tm.setIfInBounds x.1 x.2) r.tmps=(ps.zip args.toList).foldl (fun tm (x:Tmp × Value)=>tm.setIfInBounds x.1 x.2) r.tmps:=by
     rw [←Array.foldl_toList];simp
    have hT:TR m nt a1 {tmps:=(ps.toArray.zip args).foldl (fun tm (x:Tmp × Value)=>tm.setIfInBounds x.1 x.2) r.tmps,defers:=[]}:=⟨by rw [hfold];exact e2,fun k=>by rw [hfold];exact e3 k⟩
    refine wpIn_mono (hc _ _ _ _ _ _ _ _ ha2 B X m _ w _ (n-1) X.K (FOf.round i.r) hs hT .nil hB) ?_
    rintro e act1 w1 ⟨rfl,X1,m1,hG1,hM1,hle1,hs1,hT1,hb1⟩
    show ∃ w₂,_
    unfold rdBody at h
    split at h
    ·rename_i t' nt' ps' asg' bd' hg1
     have hi1:=hle1 _ _ hi
     obtain ⟨⟨r1,k0,k1,k2,k3,k4,k5,k6⟩,kB,klt⟩:=hs1.rel l _ i hg1 rfl hi1
     split at h
     ·rename_i x a3 s3 ha3
      obtain ⟨g1,g2⟩:=setLoop_sound (st':=.busy) (r':={r1 with state:=.busy}) hs1 hg1 hi1 k0 ⟨rfl,rfl,rfl,rfl⟩ rfl
      refine ⟨_,run_beginRound (P:=C.P) k0 k5.1,?_⟩
      have hBw:=hB.next (hb1.trans g2)
      refine wpIn_mono (hc _ _ _ _ _ _ _ _ ha3 B X1 m1 act1 _ _ (n-1) X.K (FOf.round i.r) g1 hT1 hM1 hBw) ?_
      rintro e act3 w3 ⟨rfl,X3,m3,hG3,hM3,hle3,hs3,hT3,hb3⟩
      unfold rdEnd at h
      split at h
      ·rename_i t3 nt3 ps3 asg3 bd3 hg3
       have hi3:=hle3 _ _ hi1
       obtain ⟨⟨r3,j0,j1,j2,j3,j4,j5,j6⟩,jB,jlt⟩:=hs3.rel l _ i hg3 rfl hi3
       have fin:∀ (jump:Option Code) (st':LSt),st'.is {r3 with state:=if jump.isNone then .ready else .done,pending:=jump}→s'=⟨s3.n,s3.h.put l (.loop t3 nt3 ps3 asg3 bd3 st')⟩→v=.bool jump.isNone →
        ∃ v' w',(Instr.endRound i.r jump).run C.P w3=.ok v' w'∧K (act.put o.dst v') w':=by
        intro jump st' hst he hv
        obtain ⟨f1,f2⟩:=setLoop_sound (st':=st') (r':={r3 with state:=if jump.isNone then .ready else .done,pending:=jump}) hs3 hg3 hi3 j0 ⟨rfl,rfl,rfl,rfl⟩ hst
        refine ⟨_,_,run_endRound (P:=C.P) jump j0,hK _ _ ⟨m3,fun b k hk=>hle3 _ _ (hle1 _ _ hk),?_,by rw [hv];exact .plain _ rfl,(hb1.trans g2).trans (hb3.trans f2)⟩⟩
        rw [he]
        exact f1.ghosts (fun b k hk=>by rw [hG3,hG1];exact hk) (fun d k hk=>MK_le hM3 d k hk)
       cases x with
       | normal=>cases h;exact fin none .ready ⟨rfl,rfl⟩ rfl rfl
       | ret=>cases h;exact fin (some .ret) (.done .ret) ⟨rfl,rfl⟩ rfl rfl
       | exit id=>cases h;exact fin (some (.exit id)) (.done (.exit id)) ⟨rfl,rfl⟩ rfl rfl
      ·cases h
     ·cases h
    ·cases h
   ·cases h
  ·cases h
 ·cases h
theorem act_sound (hC:COK ω C) (hc:SndC ω C ih) (hf:SndF ω C ih) {q:Bool} {F:Fence} (hF:FOf q F) (hs:SR B X m s w) (ht:TR m N a act) (hB:Bs ω C B w) {o:Oper} {v:Value} (h:actRes ih (aop C o a s)=some (v,s'))
 {act2:Act} (hev:execOp act2.eval o=execOp act.eval o) {K:Act→World→Prop} {Q:Exit→Act→World→Prop} (hK:∀ v' w',RelV B X m s' w v v' w'→K (act2.put o.dst v') w'):o.wpIn F n C.P act2 w K Q:=by
 have hnd:∀ c,o.op≠.defer c:=by
  intro c hd
  unfold aop at h
  rw [hd] at h
  cases h
 refine ⟨fun f _=>hF.fn f,?_⟩
 rw [Oper.semAt_eq _ _ _ hnd,hev]
 cases ha:aop C o a s with
 | none=>rw [ha] at h;cases h
 | some p =>
  obtain ⟨r,s1⟩:=p
  rw [ha] at h
  have ho:=aop_sound hC.ok hs ht hB ha
  cases r with
  | val v1 =>
   cases h
   obtain ⟨nx,w',m',hr,hle,hs',hb,hrr⟩:=ho
   rw [hr]
   cases nx <;> first | (exact hrr.elim;done) | exact hK _ _ ⟨m',hle,hs',hrr,hb⟩
  | skip =>
   cases h
   obtain ⟨nx,w',m',hr,hle,hs',hb,hrr⟩:=ho
   rw [hr]
   cases nx <;> first | (exact hrr.elim;done) | exact hK _ _ ⟨m',hle,hs',undef_rel,hb⟩
  | call g vs =>
   obtain ⟨args,hl,hr,hs1⟩:=ho
   rw [hr]
   exact (hf _ _ _ _ _ h B X m w args hs1 hl hB).1 q F n o act2 K Q hF hK
  | round b vs =>
   obtain ⟨i,args,hi,hl,hr,hs1⟩:=ho
   rw [hr]
   exact round_sound hc hs1 hB h hi hl hF hK
end
end Go.Proofs.YtekajggjoeimoaaGreatDoor.Ev
namespace Go.Proofs.YtekajggjoeimoaaGreatDoor.Ev
open Go.RowKit
variable {ω:Nat→Value}
structure Good (ops:Array Oper):Prop where
 once:∀ (i j:Nat) (oi oj:Oper) (t:Tmp),ops[i]?=some oi→ops[j]?=some oj→oi.dst=some t→oj.dst=some t→i=j
 ahead:∀ (i:Nat) (o:Oper),ops[i]?=some o→∀ e∈o.after,Region.binds .any e=true→e.on<i
 reads:∀ (i j:Nat) (o oj:Oper) (t:Tmp),ops[i]?=some o→.tmp t∈o.op.operands→ops[j]?=some oj→oj.dst=some t→(∃ e∈o.after,Region.binds .any e=true∧e.on=j)∨(lateB ops.toList j oj=true∧∃ e∈oj.after,Region.binds .any e=true∧e.on=i)
 guards:∀ (i g:Nat) (o:Oper) (b:Bool),ops[i]?=some o→o.guard=some (g,b)→∃ og t,ops[g]?=some og∧og.dst=some t∧∃ e∈o.after,Region.binds .any e=true∧e.on=g
 nosel:∀ (i:Nat) (o:Oper) cs b,ops[i]?=some o→o.op≠.select cs b
theorem dstM_iff {t:Tmp}:∀ {l:List Oper},bitB (dstM l) t=true↔∃ o∈l,o.dst=some t
 | []=>by simp [dstM,bitB_zero]
 | o::os=>by
  have ih:=dstM_iff (t:=t) (l:=os)
  simp only [dstM,List.mem_cons]
  cases hd:o.dst with
  | none =>
   simp only []
   rw [ih]
   constructor
   ·rintro ⟨p,hp,he⟩;exact ⟨p,.inr hp,he⟩
   ·rintro ⟨p,rfl | hp,he⟩
    ·rw [hd] at he;cases he
    ·exact ⟨p,hp,he⟩
  | some u =>
   simp only [setB_bit,Bool.or_eq_true,decide_eq_true_eq]
   rw [ih]
   constructor
   ·rintro (rfl | ⟨p,hp,he⟩)
    ·exact ⟨o,.inl rfl,hd⟩
    ·exact ⟨p,.inr hp,he⟩
   ·rintro ⟨p,rfl | hp,he⟩
    ·rw [hd] at he;cases he;exact .inl rfl
    ·exact .inr ⟨p,hp,he⟩
theorem dstOnce_spec:∀ {l:List Oper},dstOnce l=true→∀ (i j:Nat) (oi oj:Oper) (t:Tmp),l[i]?=some oi→l[j]?=some oj→oi.dst=some t→oj.dst=some t→i=j
 | [],_,i,j,oi,oj,t,hi,_,_,_=>by simp at hi
 | o::os,h,i,j,oi,oj,t,hi,hj,di,dj=>by
  have hos:dstOnce os=true:=by
   simp only [dstOnce] at h
   split at h
   ·rename_i u hu
    cases hb:bitB (dstM os) u with
    | true=>rw [hb] at h;cases h
    | false=>rw [hb] at h;exact h
   ·exact h
  have no:∀ (k:Nat) (ok:Oper),os[k]?=some ok→ok.dst=some t→o.dst=some t→False:=by
   intro k ok hk dk d0
   simp only [dstOnce,d0] at h
   have:bitB (dstM os) t=true:=dstM_iff.2 ⟨ok,List.mem_of_getElem? hk,dk⟩
   rw [this] at h
   cases h
  cases i with
  | zero =>
   simp at hi;subst hi
   cases j with
   | zero=>rfl
   | succ j=>exact (no j oj (by simpa using hj) dj di).elim
  | succ i =>
   cases j with
   | zero=>simp at hj;subst hj;exact (no i oi (by simpa using hi) di dj).elim
   | succ j=>rw [dstOnce_spec hos i j oi oj t (by simpa using hi) (by simpa using hj) di dj]
theorem okOps_spec {all:List Oper} {Mk:Nat}:∀ {l:List Oper} {k:Nat},okOps all Mk l k=true→∀ (i:Nat) (o:Oper),l[i]?=some o→okOp all Mk (k+i) o=true
 | [],_,_,i,o,hi=>by simp at hi
 | p::ps,k,h,i,o,hi=>by
  simp only [okOps] at h
  cases hp:okOp all Mk k p with
  | false=>rw [hp] at h;cases h
  | true =>
   rw [hp] at h
   cases i with
   | zero=>simp at hi;subst hi;exact hp
   | succ i=>have:=okOps_spec (k:=k+1) h i o (by simpa using hi);rw [show k+(i+1)=k+1+i by omega];exact this
theorem predD_spec {all:List Oper} {t:Tmp}:∀ {es:List Edge},bitB (predD all es) t=true→∃ e∈es,Region.binds .any e=true∧∃ o,all[e.on]?=some o∧o.dst=some t
 | [],h=>by simp [predD,bitB_zero] at h
 | e::es,h=>by
  simp only [predD] at h
  have hrec:bitB (predD all es) t=true→∃ x∈e::es,Region.binds .any x=true∧∃ o,all[x.on]?=some o∧o.dst=some t:=fun h=>by
   obtain ⟨x,hx,r⟩:=predD_spec h;exact ⟨x,by simp [hx],r⟩
  cases hb:Region.binds .any e with
  | false=>rw [hb] at h;exact hrec h
  | true =>
   rw [hb] at h
   simp only [cond_true] at h
   split at h
   ·rename_i o ho
    split at h
    ·rename_i u hu
     rcases setB_inv h with rfl | h
     ·exact ⟨e,by simp,hb,o,ho,hu⟩
     ·exact hrec h
    ·exact hrec h
   ·exact hrec h
theorem tmpsIn_spec {Mk Qk:Nat}:∀ {l:List Operand},tmpsIn Mk Qk l=true→∀ t,.tmp t∈l→bitB Mk t=true→bitB Qk t=true
 | [],_,t,ht,_=>by simp at ht
 | x::l,h,t,ht,hm=>by
  have hrec:tmpsIn Mk Qk l=true:=by
   cases x <;> simp only [tmpsIn] at h <;> try exact h
   rename_i u
   cases h1:bitB Mk u <;> cases h2:bitB Qk u <;> rw [h1] at h <;> simp only [cond_true,cond_false] at h <;> try exact h
   all_goals (rw [h2] at h;first | exact h | cases h)
  rcases List.mem_cons.1 ht with e | ht
  ·subst e
   simp only [tmpsIn,hm,cond_true] at h
   cases h2:bitB Qk t with
   | true=>rfl
   | false=>rw [h2] at h;cases h
  ·exact tmpsIn_spec hrec t ht hm
theorem readsT_of {t:Tmp}:∀ {l:List Operand},.tmp t∈l→readsT t l=true
 | [],h=>by simp at h
 | x::l,h=>by
  rcases List.mem_cons.1 h with e | h
  ·subst e;simp [readsT]
  ·have ih:=readsT_of h
   cases x <;> simp only [readsT] <;> try exact ih
   rename_i u
   cases Nat.beq u t <;> first | rfl | exact ih
theorem hasEdge_iff {j:Nat}:∀ {es:List Edge},hasEdge j es=true↔∃ e∈es,Region.binds .any e=true∧e.on=j
 | []=>by simp [hasEdge]
 | e::es=>by
  have ih:=hasEdge_iff (j:=j) (es:=es)
  simp only [hasEdge,List.mem_cons,exists_eq_or_imp]
  cases hb:Region.binds .any e with
  | false=>simp only [cond_false,ih];simp
  | true =>
   cases hj:Nat.beq e.on j with
   | true=>simp only [cond_true,true_iff];exact .inl ⟨trivial,Nat.eq_of_beq_eq_true hj⟩
   | false =>
    simp only [cond_true,cond_false,ih]
    constructor
    ·exact .inr
    ·rintro (⟨_,h⟩ | h)
     ·exact absurd h (Nat.ne_of_beq_eq_false hj)
     ·exact h
theorem lateT_of {t:Tmp} {i:Nat}:∀ {l:List Oper} {k:Oper},k∈l→readsT t k.op.operands.toList=true→hasEdge i k.after.toList=false→lateT t i l=true
 | [],_,h,_,_=>by simp at h
 | x::l,k,h,h1,h2=>by
  simp only [lateT]
  rcases List.mem_cons.1 h with e | h
  ·subst e;rw [h1,h2];rfl
  ·have ih:=lateT_of h h1 h2
   cases readsT t x.op.operands.toList <;> cases hasEdge i x.after.toList <;> first | rfl | exact ih
theorem antiD_spec {i:Nat} {t:Tmp}:∀ {l:List Oper},bitB (antiD i l) t=true→∃ k∈l,hasEdge i k.after.toList=true∧k.dst=some t
 | [],h=>by simp [antiD,bitB_zero] at h
 | k::ks,h=>by
  simp only [antiD] at h
  have hrec:bitB (antiD i ks) t=true→∃ x∈k::ks,hasEdge i x.after.toList=true∧x.dst=some t:=fun h=>by
   obtain ⟨x,hx,r⟩:=antiD_spec h;exact ⟨x,by simp [hx],r⟩
  cases hb:hasEdge i k.after.toList with
  | false=>rw [hb] at h;exact hrec h
  | true =>
   rw [hb] at h
   simp only [cond_true] at h
   split at h
   ·rename_i u hu
    rcases setB_inv h with rfl | h
    ·exact ⟨k,by simp,hb,hu⟩
    ·exact hrec h
   ·exact hrec h
theorem lor_bit (a b j:Nat):bitB (Nat.lor a b) j=(bitB a j || bitB b j):=by
 rw [bitB_eq,bitB_eq,bitB_eq]
 show (a ||| b).testBit j=_
 rw [Nat.testBit_or]
theorem good_of {ops:Array Oper} (h:okD ops.toList=true):Good ops:=by
 unfold okD at h
 rw [Bool.and_eq_true] at h
 obtain ⟨h1,h2⟩:=h
 have lst:∀ (i:Nat),ops.toList[i]?=ops[i]?:=fun i=>by simp
 have one:∀ (i:Nat) (o:Oper),ops[i]?=some o→okOp ops.toList (dstM ops.toList) i o=true:=fun i o hi=>by
  have:=okOps_spec h2 i o (by rw [lst];exact hi)
  simpa using this
 have once:=fun (i j:Nat) (oi oj:Oper) (t:Tmp) (hi:ops[i]?=some oi) (hj:ops[j]?=some oj)=>dstOnce_spec h1 i j oi oj t (by rw [lst];exact hi) (by rw [lst];exact hj)
 refine ⟨once,fun i o hi=>?_,fun i j o oj t hi ht hj hd=>?_,fun i g o b hi hg=>?_,fun i o cs b hi he=>?_⟩
 ·have:=one i o hi
  unfold okOp at this
  rw [Bool.and_eq_true] at this
  intro e he hb
  exact ahead_iff.1 this.1 e (by simpa using he) hb
 ·have:=one i o hi
  unfold okOp at this
  rw [Bool.and_eq_true,Bool.and_eq_true] at this
  have hm:bitB (dstM ops.toList) t=true:=dstM_iff.2 ⟨oj,List.mem_of_getElem? (by rw [lst];exact hj),hd⟩
  have hq:=tmpsIn_spec this.2.1 t (by simpa using ht) hm
  rw [lor_bit,Bool.or_eq_true] at hq
  rcases hq with hq | hq
  ·obtain ⟨e,he,hb,o',ho',hd'⟩:=predD_spec hq
   rw [lst] at ho'
   exact .inl ⟨e,by simpa using he,hb,once _ _ _ _ _ ho' hj hd' hd⟩
  ·obtain ⟨k,hk,hek,hdk⟩:=antiD_spec hq
   obtain ⟨j',hj'⟩:=List.mem_iff_getElem?.1 hk
   rw [lst] at hj'
   have hjj:=once _ _ _ _ _ hj' hj hdk hd
   subst hjj
   rw [hj] at hj';cases hj'
   cases hwait:hasEdge j' o.after.toList with
   | true =>
    obtain ⟨e,he,hb,hon⟩:=hasEdge_iff.1 hwait
    exact .inl ⟨e,by simpa using he,hb,hon⟩
   | false =>
    obtain ⟨e,he,hb,hon⟩:=hasEdge_iff.1 hek
    refine .inr ⟨?_,e,by simpa using he,hb,hon⟩
    unfold lateB
    rw [hd]
    exact lateT_of (List.mem_of_getElem? (by rw [lst];exact hi)) (readsT_of (by simpa using ht)) hwait
 ·have:=one i o hi
  unfold okOp at this
  rw [Bool.and_eq_true,Bool.and_eq_true,Bool.and_eq_true] at this
  have hgi:=this.2.2.1
  rw [hg] at hgi
  simp only [guardIn] at hgi
  split at hgi
  ·rename_i og hog
   rw [lst] at hog
   split at hgi
   ·rename_i t ht
    obtain ⟨e,he,hb,o',ho',hd'⟩:=predD_spec hgi
    rw [lst] at ho'
    exact ⟨og,t,hog,ht,e,by simpa using he,hb,once _ _ _ _ _ ho' hog hd' ht⟩
   ·cases hgi
  ·cases hgi
 ·have:=one i o hi
  unfold okOp at this
  rw [Bool.and_eq_true,Bool.and_eq_true,Bool.and_eq_true] at this
  have hn:=this.2.2.2
  rw [he] at hn
  cases hn
theorem preds_spec {A:Nat}:∀ {es:List Edge} {j:Nat},bitB (preds A es) j=true→bitB A j=true∨∃ e∈es,Region.binds .any e=true∧e.on=j
 | [],j,h=>.inl h
 | e::es,j,h=>by
  simp only [preds] at h
  have hrec:bitB (preds A es) j=true→bitB A j=true∨∃ x∈e::es,Region.binds .any x=true∧x.on=j:=fun h =>
   (preds_spec h).imp id fun ⟨x,hx,r⟩=>⟨x,by simp [hx],r⟩
  cases hb:Region.binds .any e with
  | false=>rw [hb] at h;exact hrec h
  | true =>
   rw [hb] at h
   rcases setB_inv h with rfl | h
   ·exact .inr ⟨e,by simp,hb,rfl⟩
   ·exact hrec h
theorem preds_sub {A:Nat}:∀ {es:List Edge} {j:Nat},bitB A j=true→bitB (preds A es) j=true
 | [],_,h=>h
 | e::es,j,h=>by
  have ih:=preds_sub (es:=es) h
  simp only [preds]
  cases Region.binds .any e with
  | false=>exact ih
  | true=>exact setB_old ih
theorem anc_sub {all:List Oper} {A j:Nat} (h:bitB A j=true):∀ {l:List Oper} {k:Nat},bitB (anc all l k A) j=true
 | [],_=>h
 | o::os,k=>by
  have ih:=anc_sub h (all:=all) (l:=os) (k:=k+1)
  simp only [anc]
  cases bitB (anc all os (k+1) A) k with
  | false=>exact ih
  | true=>exact preds_sub ih
theorem anc_spec {all:List Oper} (S:Nat→Prop) (hS:∀ i o,all[i]?=some o→S i→∀ e∈o.after,Region.binds .any e=true→S e.on):∀ {l:List Oper} {k A:Nat},(∀ i,l[i]?=all[k+i]?)→(∀ j,bitB A j=true→S j)→∀ j,bitB (anc all l k A) j=true→S j
 | [],_,_,_,hA,j,h=>hA j h
 | o::os,k,A,hl,hA,j,h=>by
  have ih:=anc_spec S hS (l:=os) (k:=k+1) (A:=A) (fun i=>by have:=hl (i+1);rw [List.getElem?_cons_succ] at this;rw [this];congr 1;omega) hA
  simp only [anc] at h
  cases hb:bitB (anc all os (k+1) A) k with
  | false=>rw [hb] at h;exact ih j h
  | true =>
   rw [hb] at h
   rcases preds_spec h with h | ⟨e,he,hbi,rfl⟩
   ·exact ih j h
   ·exact hS k o (by have:=hl 0;simpa using this.symm) (ih k hb) e (by simpa using he) hbi
theorem readyL_spec {D:Nat}:∀ {l:List Oper} {k i:Nat} {o:Oper},l[i]?=some o→bitB D (k+i)=false→predsIn D o.after.toList=true→k+i∈readyL D l k
 | [],_,_,_,h,_,_=>by simp at h
 | p::ps,k,i,o,h,hb,hp=>by
  simp only [readyL]
  cases i with
  | zero =>
   simp at h;subst h
   rw [Nat.add_zero] at hb ⊢
   rw [hb,hp];simp
  | succ i =>
   have ih:=readyL_spec (k:=k+1) (l:=ps) (i:=i) (o:=o) (by simpa using h) (by rw [show k+1+i=k+(i+1) by omega];exact hb) hp
   rw [show k+1+i=k+(i+1) by omega] at ih
   cases bitB D k with
   | true=>exact ih
   | false =>
    cases predsIn D p.after.toList with
    | true=>exact List.mem_cons_of_mem _ ih
    | false=>exact ih
theorem verL_spec {C:Ctx} {all:List Oper} {D A:Nat} {a:T Value} {s:AS}:∀ {l:List Oper} {k:Nat},verL C all D A a s l k=true→∀ (i:Nat) (o:Oper),l[i]?=some o→bitB D (k+i)=true→bitB A (k+i)=false→verO C all a s o=true
 | [],_,_,i,o,h,_,_=>by simp at h
 | p::ps,k,h,i,o,hi,hD,hA=>by
  simp only [verL] at h
  cases i with
  | zero =>
   simp at hi;subst hi
   rw [Nat.add_zero] at hD hA
   rw [hD,hA] at h
   cases hv:verO C all a s p with
   | true=>rfl
   | false=>rw [hv] at h;cases h
  | succ i =>
   have hr:verL C all D A a s ps (k+1)=true:=by
    cases h1:bitB D k <;> cases h2:bitB A k <;> cases h3:verO C all a s p <;> simp [h1,h2,h3] at h <;> exact h
   exact verL_spec hr i o (by simpa using hi) (by rw [show k+1+i=k+(i+1) by omega];exact hD) (by rw [show k+1+i=k+(i+1) by omega];exact hA)
end Go.Proofs.YtekajggjoeimoaaGreatDoor.Ev
namespace Go.Proofs.YtekajggjoeimoaaGreatDoor.Ev
open Go.RowKit
variable {ω:Nat→Value}
def AlAt (C:Ctx) (ops:Array Oper) (D:Nat) (a:T Value) (L:Array Bool) (i:Nat) (o:Oper) (q:AObj) (f:Nat→Value):Prop :=
 ops[i]?=some o∧bitB D i=true∧L.getD i false=false∧wantedB ops.toList o a=true∧alOf o.op C a=some (q,f)
structure DInv (C:Ctx) (ops:Array Oper) (N B:Nat) (X0:Aux) (D A:Nat) (a:T Value) (s:AS) (L:Array Bool) (act:Act) (w:World) (X:Aux) (m:M ω) (γ:Nat→Nat):Prop where
 size:L.size=ops.size
 sub:∀ i,L.getD i false=true→bitB D i=true
 down:∀ i o,ops[i]?=some o→L.getD i false=true→∀ e∈o.after,Region.binds .any e=true→L.getD e.on false=true
 downD:∀ i o,ops[i]?=some o→bitB D i=true→∀ e∈o.after,Region.binds .any e=true→bitB D e.on=true
 must:∀ i,i<ops.size→bitB A i=true→L.getD i false=true
 dstN:∀ i o t,ops[i]?=some o→bitB D i=true→o.dst=some t→t<N
 tsize:act.tmps.size=N
 tmps:∀ t,(∀ i o,ops[i]?=some o→bitB D i=true→o.dst=some t→L.getD i false=true)→VRel m ((a.get t).getD undef) (act.tmps.getD t undef)
 sr:SR B X m s w
 K:X.K=X0.K
 G:∀ b o,X0.G b=some o→X.G b=some o
 al:∀ i o q f,AlAt C ops D a L i o q f→X.G (γ i)=some q∧X0.G (γ i)=none∧∃ t,o.dst=some t∧a.get t=some (f (γ i))
 inj:∀ i j oi oj qi qj fi fj,AlAt C ops D a L i oi qi fi→AlAt C ops D a L j oj qj fj→i≠j→γ i≠γ j
 hB:Bs ω C B w
 late:∀ i o,ops[i]?=some o→lateB ops.toList i o=true→bitB D i=true→bitB A i=true
section
variable {C:Ctx} {ops:Array Oper} {N B:Nat} {X0 X:Aux} {D A:Nat} {a a':T Value} {s s':AS} {L:Array Bool} {act:Act} {w:World} {m:M ω} {γ:Nat→Nat} {i:Nat} {o:Oper}
theorem putA_inv {v:Value} {d:Option Tmp} (h:putA N a d v=some a'):(d=none∧a'=a)∨∃ t,d=some t∧t<N∧a'=a.put t v:=by
 cases d with
 | none=>cases h;exact .inl ⟨rfl,rfl⟩
 | some t =>
  have h':Bool.rec (motive:=fun _=>Option (T Value)) none (some (a.put t v)) (Nat.blt t N)=some a':=h
  cases hb:Nat.blt t N with
  | false=>rw [hb] at h';cases h'
  | true=>rw [hb] at h';cases h';rw [Nat.blt_eq] at hb;exact .inr ⟨t,rfl,hb,rfl⟩
theorem agree_put (hg:Good ops) (hi:ops[i]?=some o) {j:Nat} {oj:Oper} (hj:ops[j]?=some oj) (hno:∀ e∈oj.after,Region.binds .any e=true→e.on≠i) (hnl:lateB ops.toList i o=true→∀ e∈o.after,Region.binds .any e=true→e.on≠j) {t:Tmp} (ht:o.dst=some t) (v:Value):Agree oj.op (a.put t v) a:=by
 intro x hx
 cases x with
 | tmp u =>
  have:u≠t:=by
   rintro rfl
   rcases hg.reads j i oj o u hj hx hi ht with ⟨e,he,hb,rfl⟩ | ⟨hl,e,he,hb,rfl⟩
   ·exact hno e he hb rfl
   ·exact hnl hl e he hb rfl
  show orUndef ((a.put t v).get u)=orUndef (a.get u)
  rw [T.get_put,if_neg this]
 | _=>rfl
theorem wanted_putA (hg:Good ops) (hi:ops[i]?=some o) {j:Nat} {oj:Oper} (hj:ops[j]?=some oj) (hno:∀ e∈oj.after,Region.binds .any e=true→e.on≠i) {t:Tmp} (ht:o.dst=some t) (v:Value):wantedB ops.toList oj (a.put t v)=wantedB ops.toList oj a:=by
 unfold wantedB
 cases hgd:oj.guard with
 | none=>rfl
 | some gb =>
  obtain ⟨g,b⟩:=gb
  obtain ⟨og,d,h1,h2,e,he,hb,hge⟩:=hg.guards j g oj b hj hgd
  have hgi:g≠i:=fun hh=>hno e he hb (hge.trans hh)
  have hd:d≠t:=fun hh=>hgi (hg.once g i og o t h1 hi (by rw [←hh];exact h2) ht)
  show wantedG ops.toList (a.put t v) (g,b)=wantedG ops.toList a (g,b)
  simp only [wantedG,Array.getElem?_toList,h1,h2,T.get_put,if_neg hd]
theorem no_edge (h:DInv C ops N B X0 D A a s L act w X m γ) (hiD:bitB D i=false) {j:Nat} {oj:Oper} (hj:ops[j]?=some oj) (hjD:bitB D j=true):∀ e∈oj.after,Region.binds .any e=true→e.on≠i:=fun e he hb hh=>by
 have:=h.downD j oj hj hjD e he hb
 rw [hh,hiD] at this;cases this
theorem no_self (hg:Good ops) (hi:ops[i]?=some o):∀ e∈o.after,Region.binds .any e=true→e.on≠i:=fun e he hb hh=>by
 have:=hg.ahead i o hi e he hb;omega
theorem DInv.grow (hg:Good ops) (h:DInv C ops N B X0 D A a s L act w X m γ) (hi:ops[i]?=some o) (hiD:bitB D i=false) (hp:predsIn D o.after.toList=true) (hnl:lateB ops.toList i o=false) {v:Value} (ha:putA N a o.dst v=some a')
 {X':Aux} {γ':Nat→Nat} (hsr:SR B X' m s' w) (hK:X'.K=X.K) (hG:∀ b q,X.G b=some q→X'.G b=some q) (hγ:∀ j,j≠i→γ' j=γ j)
 (hnew:∀ q f,wantedB ops.toList o a=true→alOf o.op C a=some (q,f)→X'.G (γ' i)=some q∧X0.G (γ' i)=none∧(∃ t,o.dst=some t∧a'.get t=some (f (γ' i)))∧∀ b q,X.G b=some q→γ' i≠b) :
 DInv C ops N B X0 (setB D i) A a' s' L act w X' m γ':=by
 have hput:=putA_inv ha
 have hiL:L.getD i false=false:=by
  cases hl:L.getD i false with
  | false=>rfl
  | true=>have:=h.sub i hl;rw [hiD] at this;cases this
 have same:∀ {j:Nat} {oj:Oper},ops[j]?=some oj→(∀ e∈oj.after,Region.binds .any e=true→e.on≠i)→wantedB ops.toList oj a'=wantedB ops.toList oj a∧alOf oj.op C a'=alOf oj.op C a:=by
  intro j oj hj hno
  rcases hput with ⟨_,rfl⟩ | ⟨t,ht,_,rfl⟩
  ·exact ⟨rfl,rfl⟩
  ·exact ⟨wanted_putA hg hi hj hno ht v,al_congr (agree_put hg hi hj hno (fun h=>by rw [hnl] at h;cases h) ht v)⟩
 have old:∀ {j:Nat} {oj:Oper} {q:AObj} {f:Nat→Value},AlAt C ops (setB D i) a' L j oj q f→j≠i→AlAt C ops D a L j oj q f:=by
  rintro j oj q f ⟨h1,h2,h3,h4,h5⟩ hne
  have hjD:bitB D j=true:=(setB_inv h2).resolve_left hne
  obtain ⟨e1,e2⟩:=same h1 (no_edge h hiD h1 hjD)
  exact ⟨h1,hjD,h3,by rw [←e1];exact h4,by rw [←e2];exact h5⟩
 have selfI:∀ {oj:Oper} {q:AObj} {f:Nat→Value},AlAt C ops (setB D i) a' L i oj q f→X'.G (γ' i)=some q∧X0.G (γ' i)=none∧(∃ t,oj.dst=some t∧a'.get t=some (f (γ' i)))∧∀ b q,X.G b=some q→γ' i≠b:=by
  rintro oj q f ⟨h1,h2,h3,h4,h5⟩
  rw [hi] at h1;cases h1
  obtain ⟨e1,e2⟩:=same hi (no_self hg hi)
  exact hnew q f (by rw [←e1];exact h4) (by rw [←e2];exact h5)
 have geta:∀ t,o.dst≠some t→a'.get t=a.get t:=by
  intro t ht
  rcases hput with ⟨_,rfl⟩ | ⟨u,hu,_,rfl⟩
  ·rfl
  ·rw [T.get_put,if_neg (fun e=>ht (by rw [e];exact hu))]
 refine ⟨h.size,fun j hj=>setB_old (h.sub j hj),h.down,?_,h.must,?_,h.tsize,?_,hsr,hK.trans h.K,fun b q hb=>hG b q (h.G b q hb),?_,?_,h.hB,?_⟩
 ·intro j oj hj hjD e he hb
  rcases setB_inv hjD with rfl | hjD
  ·rw [hi] at hj;cases hj
   exact setB_old (predsIn_iff.1 hp e (by simpa using he) hb)
  ·exact setB_old (h.downD j oj hj hjD e he hb)
 ·intro j oj t hj hjD ht
  rcases setB_inv hjD with rfl | hjD
  ·rw [hi] at hj;cases hj
   rcases hput with ⟨e,_⟩ | ⟨u,hu,hlt,_⟩
   ·rw [ht] at e;cases e
   ·rw [ht] at hu;cases hu;exact hlt
  ·exact h.dstN j oj t hj hjD ht
 ·intro t hall
  rw [geta t (fun e=>by have:=hall i o hi (setB_same _ _) e;rw [hiL] at this;cases this)]
  exact h.tmps t fun j oj hj hjD=>hall j oj hj (setB_old hjD)
 ·intro j oj q f hj
  by_cases hji:j=i
  ·subst hji
   obtain ⟨k1,k2,k3,_⟩:=selfI hj
   exact ⟨k1,k2,k3⟩
  ·obtain ⟨k1,k2,t,k3,k4⟩:=h.al j oj q f (old hj hji)
   rw [hγ j hji]
   refine ⟨hG _ _ k1,k2,t,k3,?_⟩
   rw [geta t (fun e=>hji (hg.once j i oj o t hj.1 hi k3 e))]
   exact k4
 ·intro j k oj ok qj qk fj fk hj hk hne
  by_cases hji:j=i
  ·subst hji
   have hk':=old hk (fun e=>hne e.symm)
   rw [hγ k (fun e=>hne e.symm)]
   exact (selfI hj).2.2.2 _ _ (h.al k ok qk fk hk').1
  ·by_cases hki:k=i
   ·subst hki
    rw [hγ j hji]
    exact ((selfI hk).2.2.2 _ _ (h.al j oj qj fj (old hj hji)).1).symm
   ·rw [hγ j hji,hγ k hki]
    exact h.inj j k oj ok qj qk fj fk (old hj hji) (old hk hki) hne
 ·intro j oj hj hl hjD
  rcases setB_inv hjD with rfl | hjD
  ·rw [hi] at hj;cases hj
   rw [hnl] at hl;cases hl
  ·exact h.late j oj hj hl hjD
theorem took_sound (hg:Good ops) (h:DInv C ops N B X0 D A a s L act w X m γ) (hi:ops[i]?=some o) (hiD:bitB D i=false) (hp:predsIn D o.after.toList=true) (hf:freeStep C N ops.toList i o a s=.took a' s') :
 ∃ X' γ',DInv C ops N B X0 (setB D i) A a' s' L act w X' m γ':=by
 have tk:∀ {v:Value} {s1:AS},tookP N a o.dst v s1=.took a' s'→putA N a o.dst v=some a'∧s1=s':=by
  intro v s1 ht
  unfold tookP at ht
  split at ht
  ·rename_i a1 h1;cases ht;exact ⟨h1,rfl⟩
  ·cases ht
 unfold freeStep at hf
 cases hnl:lateB ops.toList i o with
 | true=>rw [hnl] at hf;cases hf
 | false =>
 rw [hnl] at hf
 simp only [cond_false] at hf
 cases hw:wantedB ops.toList o a with
 | false =>
  rw [hw] at hf
  obtain ⟨h1,rfl⟩:=tk hf
  exact ⟨X,γ,h.grow hg hi hiD hp hnl h1 h.sr rfl (fun _ _ h=>h) (fun _ _=>rfl) (fun q f hw' _=>by rw [hw] at hw';cases hw')⟩
 | true =>
  rw [hw] at hf
  simp only [cond_true] at hf
  cases hal:alOf o.op C a with
  | some al =>
   obtain ⟨q,f⟩:=al
   rw [hal] at hf
   simp only at hf
   cases hd:o.dst with
   | none=>rw [hd] at hf;cases hf
   | some t =>
    rw [hd] at hf
    simp only [Option.isSome_some,cond_true,doAl,freeRes] at hf
    rw [←hd] at hf
    obtain ⟨h1,rfl⟩:=tk hf
    have fresh:∀ b q,X.G b=some q→s.n≠b:=fun b q hb e=>by
     have:=(h.sr.gh b q hb).1
     rw [←e,h.sr.freshH s.n (Nat.le_refl _)] at this;cases this
    refine ⟨X.add s.n q,fun j=>if j=i then s.n else γ j,h.grow hg hi hiD hp hnl h1 (ghost_sound h.sr q) rfl (fun b p hb=>?_) (fun j hj=>by simp [hj]) (fun q' f' _ hal'=>?_)⟩
    ·simp [Aux.add,(fresh b p hb).symm,hb]
    ·rw [hal] at hal';cases hal'
     refine ⟨by simp [Aux.add],?_,⟨t,hd,?_⟩,fun b p hb=>by simpa using fresh b p hb⟩
     ·simp only [if_true]
      cases h0:X0.G s.n with
      | none=>rfl
      | some p=>exact absurd rfl (fresh s.n p (h.G _ _ h0))
     ·rcases putA_inv h1 with ⟨e,_⟩ | ⟨u,hu,_,rfl⟩
      ·rw [hd] at e;cases e
      ·rw [hd] at hu;cases hu
       rw [T.get_put,if_pos rfl];simp
  | none =>
   rw [hal] at hf
   simp only at hf
   cases hst:stillB C o.op with
   | false=>rw [hst] at hf;cases hf
   | true =>
    rw [hst] at hf
    simp only [cond_true,freeRes] at hf
    split at hf
    ·rename_i v s1 hao
     obtain ⟨rfl,_⟩:=still_same hst hal hao
     obtain ⟨h1,rfl⟩:=tk hf
     exact ⟨X,γ,h.grow hg hi hiD hp hnl h1 h.sr rfl (fun _ _ h=>h) (fun _ _=>rfl) (fun q f _ hal'=>by rw [hal] at hal';cases hal')⟩
    ·cases hf
theorem pass_sound (hg:Good ops):∀ {l:List Oper} {k D D':Nat} {a a':T Value} {s s':AS} {X:Aux} {γ:Nat→Nat},(∀ i,l[i]?=ops[k+i]?)→DInv C ops N B X0 D A a s L act w X m γ→pass C N ops.toList l k D a s=some (D',a',s') →
 ∃ X' γ',DInv C ops N B X0 D' A a' s' L act w X' m γ'
 | [],_,D,_,a,_,s,_,X,γ,_,h,hp=>by cases hp;exact ⟨X,γ,h⟩
 | o::os,k,D,D',a,a',s,s',X,γ,hl,h,hp=>by
  have hl':∀ i,os[i]?=ops[k+1+i]?:=fun i=>by have:=hl (i+1);rw [List.getElem?_cons_succ] at this;rw [this];congr 1;omega
  have ho:ops[k]?=some o:=by have:=hl 0;simpa using this.symm
  simp only [pass] at hp
  cases hb:bitB D k with
  | true=>rw [hb] at hp;exact pass_sound hg hl' h hp
  | false =>
   rw [hb] at hp
   simp only [cond_false] at hp
   cases hpr:predsIn D o.after.toList with
   | false=>rw [hpr] at hp;exact pass_sound hg hl' h hp
   | true =>
    rw [hpr] at hp
    simp only [cond_true] at hp
    split at hp
    ·exact pass_sound hg hl' h hp
    ·cases hp
    ·rename_i a1 s1 hf
     obtain ⟨X1,γ1,h1⟩:=took_sound hg h ho hb hpr hf
     exact pass_sound hg hl' h1 hp
end
end Go.Proofs.YtekajggjoeimoaaGreatDoor.Ev
