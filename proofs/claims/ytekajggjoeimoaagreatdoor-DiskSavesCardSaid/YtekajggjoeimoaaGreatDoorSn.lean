/- A part of the proof of DiskSaves. No condition of its own. -/
import Derived.Test.YtekajggjoeimoaaGreatDoorSm
import Derived.Outline
import Derived.BigQuiet
import Derived.Test.YtekajggjoeimoaaGreatDoorSe
import Derived.ProofKit
import Derived.OpenShut
import Derived.ChangeOld
import Derived.Deep.Slices
import Derived.Deep.Fields
import Derived.ChangeSame
import Derived.Lib.SmallJoins
import Derived.SizedLaws
import Derived.Lib.AppendZerosOnto
import Derived.Lib.SliceRun
set_option linter.unusedVariables false
namespace Go.Proofs.YtekajggjoeimoaaGreatDoor
section
open Go.RowKit
theorem name_find {D:List En} (hn:(names D).Nodup) {k:Nat} {b:ByteArray} (hb:(bN D)[k]?=some b):∃ i,findP b D=some i:=by
 unfold bN at hb
 obtain ⟨x,hx,rfl⟩:=List.mem_map.1 (List.mem_of_getElem? hb)
 obtain ⟨e,he,rfl⟩:=List.mem_map.1 ((sN_perm D).mem_iff.1 hx)
 exact ⟨e.id,by simpa using findP_of_mem hn he⟩
theorem PD.wf {X:Nat→Prop} {w:World} {db:Nat} {p:DP} (h:PD X w db p):WF p:=by
 obtain ⟨M1,M2,v3,v4,q,fs,V,C,fb,hD,hF,ht⟩:=h
 exact ht.wf
theorem readP_arm (p:DP) (c:Int) (nm:ByteArray) (n:Int):readP (armP p (-1) c) nm n=((lookP p nm n).1,(lookP p nm n).2,armP p (-1) c):=rfl
theorem lookP_in {p:DP} {nm:ByteArray} {i m:Nat} (hf:findP nm p.now=some i) (hm:m<(p.file i).length):lookP p nm m=(0,(p.cont i).getD m ByteArray.empty):=by
 unfold lookP
 rw [hf]
 show (if (m:Int)<0∨((p.file i).length:Int)≤m then _ else _)=_
 rw [if_neg (by omega)]
 rfl
theorem StrOr.below {w w':World} {v:Value} {s:ByteArray} (h:StrOr w v s) (hb:Below w.heap.size w w'):StrOr w' v s:=h.imp (fun h=>h.heap (fun g hg _ _ _=>hb.block g hg) hb.size) id
def AlkRel (w4:World) (cb:Nat) (p:DP) (wr:World):Prop:=Below w4.heap.size w4 wr∧∃ X5:Nat→Prop,(∀ k,X5 k→w4.heap.size≤k)∧PA X5 wr cb (armP p (-1) 0)
section
variable {X X2:Nat→Prop} {w w4 wr w':World} {db rb cb:Nat} {p:DP}
theorem alk_of (hb:Below w4.heap.size w4 wr) (hX:∀ k,X k→w4.heap.size≤k) (hl:PL X wr cb (armP p (-1) 0) w') (hc:p.chs.length≤1000) (hw:p.wrs.length≤1000):AlkRel w4 cb p w' :=
 ⟨hb.trans (Fr.below hl.2 hb.size hX),_,fun k hk=>hk.1.elim (hX k) (fun h=>Nat.le_trans hb.size h),hl.1.bound,fun k hk=>hk.2,by show (-1:Int)≤_;omega,hc,hw⟩
theorem AlkRel.below (h:AlkRel w4 cb p wr) (hb:Below wr.heap.size wr w'):AlkRel w4 cb p w':=by
 obtain ⟨h1,X5,h2,h3⟩:=h
 exact ⟨h1.trans (hb.mono h1.size),X5,h2,h3.below hb⟩
set_option maxHeartbeats 4000000 in
set_option maxRecDepth 100000 in
theorem alike_0 (h:PA X w db p) (h2:RA X2 w rb p) :
 Calls Tryz.prog 14 #[.pointer (some ⟨db,0,none⟩),.pointer (some ⟨rb,0,none⟩)] w fun e w'=>e=.returned (.bool true)∧Below w.heap.size w w':=by
 have hN:=pd_names h.pd
 have hR:∀ W,Below w.heap.size w W→_:=fun W hb=>rd_names (h2.below hb)
 have hP:∀ W,Below w.heap.size w W→_:=fun W hb=>pd_pending (h.below hb).pd
 have hQ:∀ W,Below w.heap.size w W→_:=fun W hb=>rd_pending (h2.below hb).rd
 have hC:∀ W,Below w.heap.size w W→_:=fun W hb=>pd_copy (h.below hb)
 go_enter Tryz.func14,Tryz.ntmps14
 go_wp2_with (first
  | (go_at_call 45;refine hN.mono ?_;rintro e w1 ⟨v1,rfl,ho1,hb1⟩;obtain ⟨Aa,ca,rfl⟩:=own_formS ho1)
  | (go_at_call 46;refine (hR _ hb1).mono ?_;rintro e w2 ⟨v2,rfl,ho2,hb2⟩;obtain ⟨Ab,cb2,rfl⟩:=own_formS ho2;have hb2':=hb1.trans (hb2.mono hb1.size))
  | (go_at_call 47;refine (hP _ hb2').mono ?_;rintro e w3 ⟨rfl,hb3⟩;have hb3':=hb2'.trans (hb3.mono hb2'.size))
  | (go_at_call 48;refine (hQ _ hb3').mono ?_;rintro e w4 ⟨rfl,hb4⟩;have hb4':=hb3'.trans (hb4.mono hb3'.size))
  | (go_at_call 15;refine (hC _ hb4').mono ?_;rintro e w5 ⟨cb,rfl,hc5,hb5⟩;have hpa:PA (fun k=>w4.heap.size≤k∧k<w5.heap.size) w5 cb p:=⟨hc5.bound,fun k hk=>hk.2,h.after,h.chs,h.wrs⟩)
  | (go_at_call 34;refine (pd_arm hpa (-1) 0).mono ?_;rintro e w6 ⟨rfl,hL6⟩;have hk6:=alk_of hb5 (fun k hk=>hk.1) hL6 h.chs h.wrs))
 have h8:=h.pd.wf.now.len
 have hne:=h.pd.wf.now.nodup
 have hln:(bN p.now).length=p.now.length:=by unfold bN;rw [List.length_map,sN_len]
 rw [bN_val] at ho1 ho2
 rw [sN_len] at ho1 ho2 ⊢
 obtain ⟨D,hD⟩:∃ D,p.now=D:=⟨_,rfl⟩
 rw [hD] at ho1 ho2 h8 hne hln ⊢
 have HO:=Lib.hid (And.intro ho1 (And.intro ho2 (And.intro hb1 (And.intro hb2 (And.intro hb2' (And.intro hb3 (And.intro hb4 hb4')))))))
 have HD:=Lib.hid (And.intro hD (And.intro hne hln))
 have h24:Below w2.heap.size w2 w4:=hb3.trans (hb4.mono hb3.size)
 have h14:Below w1.heap.size w1 w4:=hb2.trans (h24.mono hb2.size)
 have HB:=Lib.hid (And.intro h14 h24)
 clear ho1 ho2 hD hne hln hN hR hP hQ hC hb1 hb2 hb2' hb3 hb3' hb4 hb5 hc5 hpa hL6 h14 h24
 go_loopw [12] (fun i wr=>AlkRel w4 cb p wr∧∃ k:Nat,k≤D.length∧i=.int .i64 k) (fun i _=>D.length-(intOf i).toNat)
 case atStart=>exact ⟨hk6,0,Nat.zero_le _,rfl⟩
 case round =>
  obtain ⟨hk,k,hkl,rfl⟩:=hrel
  clear hk6
  obtain ⟨wo,rfl⟩:∃ wo,wo=wr:=⟨wr,rfl⟩
  by_cases hlt:k<D.length
  ·have d1:decide (k<D.length)=true:=by simpa using hlt
   obtain ⟨ga,rfl,_,_,hca⟩:=out_cell HO.out.1 (by omega)
   obtain ⟨gb,rfl,_,_,hcb⟩:=out_cell HO.out.2.1 (by omega)
   obtain ⟨nm,hnm⟩:∃ nm,(bN D)[k]?=some nm:=⟨_,List.getElem?_eq_getElem (by have:=HD.out.2.2;omega)⟩
   obtain ⟨id,hid⟩:=name_find HD.out.2.1 hnm
   have e1:=hca wo (HB.out.1.trans (hk.1.mono HB.out.1.size)) k nm hnm
   have e2:=hcb wo (HB.out.2.trans (hk.1.mono HB.out.2.size)) k nm hnm
   have hbw:Below w.heap.size w wo:=hb4'.trans (hk.1.mono hb4'.size)
   have hfd:findP nm p.now=some id:=by rw [HD.out.1];exact hid
   have hL:=pd_len (h.below hbw).pd hfd
   have hL2:=fun W hb=>rd_len (h2.below (hbw.trans (Below.mono (w:=wo) (w':=W) hb hbw.size))) hfd
   have k0:(0:Int)≤(k:Int):=by omega
   have k1:(k:Int)<(D.length:Int):=by omega
   clear hca hcb
   go_wp2_with (first
    | (go_at_call 49;refine hL.mono ?_;rintro e w7 ⟨rfl,rfl⟩)
    | (go_at_call 50;refine (hL2 _ (Below.refl _ _)).mono ?_;rintro e w8 ⟨rfl,hb8⟩))
   have l1:=World.block_lt_of_cell? wo _ e1
   have l2:=World.block_lt_of_cell? wo _ e2
   have e3:=(hb8.cell (p:=⟨ga,k,none⟩) l1).trans e1
   have e4:=(hb8.cell (p:=⟨gb,k,none⟩) l2).trans e2
   have d2:(nm.toList != nm.toList)=false:=by simp [bne,tl_eq]
   have hk8:=hk.below hb8
   have HK:=Lib.hid (And.intro hk8 (And.intro hb8 (And.intro hk (And.intro hbw (And.intro hfd (And.intro l1 l2))))))
   clear hk8 hb8 hk hbw hfd hL hL2 l1 l2 e1 e2
   go_quiet (exact Calls.quiet_of_same ((told_none _ _ _).mono (fun e w' h=>⟨h.1,h.2.symm⟩)))
   go_wp2
   have hd8:AlkRel w4 cb p (w8.drewN nq):=HK.out.1.below ⟨rfl,rfl,rfl,Nat.le_refl _,fun _ _=>rfl⟩
   clear e3 e4 d2
   go_loopw [17] (fun s wr=>AlkRel w4 cb p wr∧∃ m:Nat,m≤(p.file id).length∧s=.int .i64 m) (fun s _=>(p.file id).length-(intOf s).toNat)
   case atStart=>exact ⟨hd8,0,Nat.zero_le _,rfl⟩
   case round =>
    obtain ⟨hk9,m,hml,rfl⟩:=hrel
    clear hd8
    obtain ⟨wm,rfl⟩:∃ wm,wm=wr:=⟨wr,rfl⟩
    have hfl:=h.pd.wf.file_len id
    by_cases hlt2:m<(p.file id).length
    ·have d2:decide (m<(p.file id).length)=true:=by simpa using hlt2
     obtain ⟨ga',hga,_,_,hca⟩:=out_cell HO.out.1 (by omega)
     simp only [Option.some.injEq,Addr.mk.injEq] at hga
     obtain ⟨rfl,_,_⟩:=hga
     have HC:=Lib.hid (And.intro (fun W (hb:Below w4.heap.size w4 W)=>hca W (HB.out.1.trans (hb.mono HB.out.1.size)) k nm hnm) hk9)
     have hlk:=lookP_in (p:=p) (nm:=nm) (m:=m) HK.out.2.2.2.2.1 hlt2
     have e1:=HC.out.1 wm hk9.1
     obtain ⟨hb9,X5,hX5,hpa⟩:=hk9
     have hR:=pd_read hpa nm m
     rw [readP_arm] at hR
     rw [hlk] at hR
     have hLk:∀ W,Below w4.heap.size w4 W→_:=fun W hb=>rd_look (h2.below (hb4'.trans (hb.mono hb4'.size))) nm m
     rw [hlk] at hLk
     obtain ⟨ct,hct⟩:∃ ct,(p.cont id).getD m ByteArray.empty=ct:=⟨_,rfl⟩
     rw [hct] at hR hLk
     have dc:(ct.toList != ct.toList)=false:=by simp [bne,tl_eq]
     have HL:=Lib.hid (And.intro hLk (And.intro hb9 (And.intro hX5 hR)))
     clear hLk hb9 hX5 hpa hR hca hlk
     go_wp2_with (first
      | (go_at_call 26;refine HL.out.2.2.2.mono ?_;rintro e w9 ⟨⟨v,u,rfl,hS,hE⟩,hL⟩;have hk9:=alk_of HL.out.2.1 HL.out.2.2.1 hL h.chs h.wrs;obtain rfl:u=.nilIface:=hE.elim (fun h=>h.2) (fun h=>absurd rfl h.1);have e9:=HC.out.1 w9 hk9.1)
      | (go_at_call 51;refine (HL.out.1 _ hk9.1).mono ?_;rintro e w10 ⟨⟨v2,rfl,hS2⟩,hb10⟩;have hk10:=hk9.below hb10;have e10:=HC.out.1 w10 hk10.1;have q1:=StrOr.conv (hS.below hb10) Tryz.underlying9;have q2:=StrOr.conv hS2 Tryz.underlying9)
      | (go_at_call 11;refine (told_none _ _ _).mono ?_;rintro e w11 ⟨rfl,rfl⟩))
     go_roundw
     case rel=>exact ⟨hk10,m+1,by omega,by go_num⟩
     case measure=>simp [intOf];omega
    ·obtain rfl:m=(p.file id).length:=by omega
     have d2:decide ((p.file id).length<(p.file id).length)=false:=by simp
     go_wp2
     go_roundw
     case rel=>exact ⟨hk9,k+1,by omega,by go_num⟩
     case measure=>simp [intOf];omega
  ·obtain rfl:k=D.length:=by omega
   have d1:decide (D.length<D.length)=false:=by simp
   go_wp2
   go_ret
   exact ⟨rfl,hb4'.trans (hk.1.mono hb4'.size)⟩
end
end
section
open Go.RowKit
structure Dm where
 d:Dd
 Ap:Option Addr
 cp:Nat
 Ak:Option Addr
 ck:Nat
def RdB (B:Nat) (w:World) (A:Option Addr) (n:Nat) (news:List Value):Prop:=∀ W,Below B w W→Reads W W.heap.size 1 A n news
structure DdAt (B:Nat) (w:World) (ad:Addr) (x:Dm):Prop where
 c0:w.cell? ad=some (.int .i64 x.d.kind)
 c1:w.cell? ⟨ad.block,ad.off+1,none⟩=some (.string x.d.a)
 c2:w.cell? ⟨ad.block,ad.off+2,none⟩=some (.string x.d.b)
 c3:w.cell? ⟨ad.block,ad.off+3,none⟩=some (.int .i64 x.d.n)
 c4:w.cell? ⟨ad.block,ad.off+4,none⟩=some (.slice x.Ap x.d.p.size x.cp)
 c5:w.cell? ⟨ad.block,ad.off+5,none⟩=some (.slice x.Ak x.d.keep.length x.ck)
 rp:RdB B w x.Ap x.d.p.size (bvals x.d.p)
 rk:RdB B w x.Ak x.d.keep.length (x.d.keep.map (.int .i64))
 n:-9223372036854775808≤x.d.n∧x.d.n≤9223372036854775807
 sa:x.d.a.size≤140737488351232
 sb:x.d.b.size≤140737488351232
 sp:x.d.p.size≤140737488351232
 sk:x.d.keep.length≤140737488351232
def DeedsAt (B:Nat) (w:World) (A:Option Addr) (ds:List Dm):Prop:=∀ k d,ds[k]?=some d→∃ ad,A=some ad∧ad.block<B∧DdAt B w (ad.add (k*6)) d
theorem add_block (a:Addr) (n:Nat):(a.add n).block=a.block:=by unfold Addr.add;split <;> rfl
theorem DeedsAt.below {B:Nat} {w w':World} {A:Option Addr} {ds:List Dm} (h:DeedsAt B w A ds) (hb:Below B w w'):DeedsAt B w' A ds:=fun k d hd=>by
 obtain ⟨ad,e,hl,h1⟩:=h k d hd
 have hk:(ad.add (k*6)).block<B:=by rw [add_block];exact hl
 exact ⟨ad,e,hl,(hb.cell hk).trans h1.c0,(hb.cell (p:=⟨_,_,none⟩) hk).trans h1.c1,(hb.cell (p:=⟨_,_,none⟩) hk).trans h1.c2,(hb.cell (p:=⟨_,_,none⟩) hk).trans h1.c3,(hb.cell (p:=⟨_,_,none⟩) hk).trans h1.c4,(hb.cell (p:=⟨_,_,none⟩) hk).trans h1.c5,fun W hW=>h1.rp W (hb.trans hW),fun W hW=>h1.rk W (hb.trans hW),h1.n,h1.sa,h1.sb,h1.sp,h1.sk⟩
def Few (d:Dd):Prop:=d.a.size+d.b.size≤4000∧d.p.size≤4000∧d.keep.length≤80
def SmallR (ds:List Dm) (w:World) (e:Ending) (w':World):Prop:=∃ b,e=.returned (.bool b)∧Below w.heap.size w w'∧(b=true→ds.length≤80∧∀ d∈ds,Few d.d)
set_option maxHeartbeats 16000000 in
set_option maxRecDepth 100000 in
theorem small_any {B:Nat} (A:Option Addr) (c:Nat) (ds:List Dm) (w:World) (hBw:B≤w.heap.size) (h:DeedsAt B w A ds) (hl:ds.length≤9223372036854775807):Calls Tryz.prog 7 #[.slice A ds.length c] w (SmallR ds w):=by
 have HD:=Lib.hid h
 clear h
 go_enter Tryz.func7,Tryz.ntmps7
 go_wp2
 go_loopw [3,4] (fun n i wr=>Below w.heap.size w wr∧∃ k m:Nat,k≤ds.length∧k≤81∧i=.int .i64 k∧n=.int .i64 m∧m≤16000∧∀ j d,j<k→ds[j]?=some d→Few d.d) (fun _ i _=>ds.length-(intOf i).toNat)
 case atStart=>exact ⟨Below.refl _ _,0,0,Nat.zero_le _,by omega,rfl,rfl,by omega,fun j d hj=>absurd hj (by omega)⟩
 case round =>
  obtain ⟨hb,k,m,hk,hk1,rfl,rfl,hm,hall⟩:=hrel
  have HA:=Lib.hid (And.intro hall hb)
  have hD:=HD.out.below (hb.mono hBw)
  clear hall hb
  obtain ⟨wo,rfl⟩:∃ wo,wo=wr:=⟨wr,rfl⟩
  by_cases h1:k<ds.length
  ·have d1:decide (k<ds.length)=true:=by simpa using h1
   by_cases h2:k≤80
   ·have d2:decide ((k:Int)≤80)=true:=by simp;omega
    by_cases h3:m≤4000
    ·have d3:decide ((m:Int)≤4000)=true:=by simp;omega
     obtain ⟨x,hx⟩:∃ x,ds[k]?=some x:=⟨_,List.getElem?_eq_getElem h1⟩
     obtain ⟨ad,rfl,hadB,hX⟩:=hD k x hx
     obtain ⟨⟨kind,na,nb,nn,np,keep⟩,Ap,cp,Ak,ck⟩:=x
     have e0:wo.cell? (ad.add (k*6))=some (.int .i64 kind):=hX.c0
     have e1:wo.cell? ⟨(ad.add (k*6)).block,(ad.add (k*6)).off+1,none⟩=some (.string na):=hX.c1
     have e2:wo.cell? ⟨(ad.add (k*6)).block,(ad.add (k*6)).off+2,none⟩=some (.string nb):=hX.c2
     have e3:wo.cell? ⟨(ad.add (k*6)).block,(ad.add (k*6)).off+3,none⟩=some (.int .i64 nn):=hX.c3
     have e4:wo.cell? ⟨(ad.add (k*6)).block,(ad.add (k*6)).off+4,none⟩=some (.slice Ap np.size cp):=hX.c4
     have e5:wo.cell? ⟨(ad.add (k*6)).block,(ad.add (k*6)).off+5,none⟩=some (.slice Ak keep.length ck):=hX.c5
     have sa:na.size≤140737488351232:=hX.sa
     have sb:nb.size≤140737488351232:=hX.sb
     have sp:np.size≤140737488351232:=hX.sp
     have sk:keep.length≤140737488351232:=hX.sk
     have HX:=Lib.hid (And.intro hx hX)
     clear hx hX hD
     have k0:(0:Int)≤(k:Int):=by omega
     have k1:(k:Int)<(ds.length:Int):=by omega
     by_cases c1:na.size+nb.size≤4000
     ·have qc1:decide ((4000:Int)<(na.size:Int)+(nb.size:Int))=false:=by simp;omega
      by_cases c2:np.size≤4000
      ·have qc2:decide ((4000:Int)<(np.size:Int))=false:=by simp;omega
       by_cases c3:keep.length≤80
       ·have qc3:decide ((80:Int)<(keep.length:Int))=false:=by simp;omega
        by_cases c4:kind=3
        ·have qc4:(kind==3)=true:=by simpa using c4
         by_cases c5:nn≤100
         ·have qc5:decide ((100:Int)<nn)=false:=by simp;omega
          go_wp2
          go_quiet (fail)
          go_wp2
          go_quiet (fail)
          go_wp2
          go_roundw
          case rel=>exact ⟨below_drewN HA.out.2 _,k+1,m+na.size+nb.size+np.size,by omega,by omega,by go_num,by go_num,by omega,fun j d hj hd=>by
           by_cases e:j=k
           ·subst e;rw [HX.out.1] at hd;cases hd;exact ⟨c1,c2,c3⟩
           ·exact HA.out.1 j d (by omega) hd⟩
          case measure=>simp [intOf];omega
         ·have qc5:decide ((100:Int)<nn)=true:=by simp;omega
          by_cases c6:nn≤4096
          ·have qc6:decide (nn≤4096)=true:=by simp;omega
           go_wp2
           go_quiet (fail)
           go_wp2
           go_ret
           exact ⟨false,rfl,below_drewN HA.out.2 _,fun e=>by cases e⟩
          ·have qc6:decide (nn≤4096)=false:=by simp;omega
           go_wp2
           go_quiet (fail)
           go_wp2
           go_quiet (fail)
           go_wp2
           go_roundw
           case rel=>exact ⟨below_drewN HA.out.2 _,k+1,m+na.size+nb.size+np.size,by omega,by omega,by go_num,by go_num,by omega,fun j d hj hd=>by
            by_cases e:j=k
            ·subst e;rw [HX.out.1] at hd;cases hd;exact ⟨c1,c2,c3⟩
            ·exact HA.out.1 j d (by omega) hd⟩
           case measure=>simp [intOf];omega
        ·have qc4:(kind==3)=false:=by simpa using c4
         go_wp2
         go_quiet (fail)
         go_wp2
         go_quiet (fail)
         go_wp2
         go_roundw
         case rel=>exact ⟨below_drewN HA.out.2 _,k+1,m+na.size+nb.size+np.size,by omega,by omega,by go_num,by go_num,by omega,fun j d hj hd=>by
          by_cases e:j=k
          ·subst e;rw [HX.out.1] at hd;cases hd;exact ⟨c1,c2,c3⟩
          ·exact HA.out.1 j d (by omega) hd⟩
         case measure=>simp [intOf];omega
       ·have qc3:decide ((80:Int)<(keep.length:Int))=true:=by simp;omega
        go_wp2
        go_quiet (fail)
        go_wp2
        go_ret
        exact ⟨false,rfl,below_drewN HA.out.2 _,fun e=>by cases e⟩
      ·have qc2:decide ((4000:Int)<(np.size:Int))=true:=by simp;omega
       go_wp2
       go_quiet (fail)
       go_wp2
       go_ret
       exact ⟨false,rfl,below_drewN HA.out.2 _,fun e=>by cases e⟩
     ·have qc1:decide ((4000:Int)<(na.size:Int)+(nb.size:Int))=true:=by simp;omega
      go_wp2
      go_quiet (fail)
      go_wp2
      go_ret
      exact ⟨false,rfl,below_drewN HA.out.2 _,fun e=>by cases e⟩
    ·have d3:decide ((m:Int)≤4000)=false:=by simp;omega
     by_cases h5:ds.length≤80
     ·have d5:decide ((ds.length:Int)≤80)=true:=by simp;omega
      go_wp2
      go_ret
      exact ⟨false,rfl,HA.out.2,fun e=>by cases e⟩
     ·have d5:decide ((ds.length:Int)≤80)=false:=by simp;omega
      go_wp2
      go_ret
      exact ⟨false,rfl,HA.out.2,fun e=>by cases e⟩
   ·have d2:decide ((k:Int)≤80)=false:=by simp;omega
    have d5:decide ((ds.length:Int)≤80)=false:=by simp;omega
    go_wp2
    go_ret
    exact ⟨false,rfl,HA.out.2,fun e=>by cases e⟩
  ·obtain rfl:k=ds.length:=by omega
   have d1:decide (ds.length<ds.length)=false:=by simp
   by_cases h5:ds.length≤80
   ·have d5:decide ((ds.length:Int)≤80)=true:=by simp;omega
    by_cases h3:m≤4000
    ·have d3:decide ((m:Int)≤4000)=true:=by simp;omega
     go_wp2
     go_ret
     exact ⟨true,rfl,HA.out.2,fun _=>⟨h5,fun d hd=>by
      obtain ⟨j,hj,e⟩:=List.mem_iff_getElem.1 hd
      exact HA.out.1 j d hj (by rw [List.getElem?_eq_getElem hj,e])⟩⟩
    ·have d3:decide ((m:Int)≤4000)=false:=by simp;omega
     go_wp2
     go_ret
     exact ⟨false,rfl,HA.out.2,fun e=>by cases e⟩
   ·have d5:decide ((ds.length:Int)≤80)=false:=by simp;omega
    go_wp2
    go_ret
    exact ⟨false,rfl,HA.out.2,fun e=>by cases e⟩
end
section
open Go.RowKit
def KD (w:World) (k:Nat):Prop:=(∃ cs t,(FT t∨DT t)∧w.heap[k]?=some (.cells cs t (0,0)))∨∃ es ck,w.heap[k]?=some (.map es ck)
def KR (w:World) (k:Nat):Prop:=∃ cs t,RT t∧w.heap[k]?=some (.cells cs t (0,0))
theorem kd_kr {w:World} {k:Nat} (h:KD w k) (h2:KR w k):False:=by
 obtain ⟨cs2,t2,ht2,h2⟩:=h2
 rcases h with ⟨cs,t,ht,h⟩ | ⟨es,ck,h⟩
 ·rw [h] at h2
  cases h2
  rcases ht with (e | e) | (e | e | e) <;> subst e <;> revert ht2 <;> unfold RT <;> decide
 ·rw [h] at h2;cases h2
theorem kd_byte {w:World} {k:Nat} (h:KD w k) (cs:Array Value):w.heap[k]?≠some (.cells cs 5 (0,0)):=by
 intro h2
 rcases h with ⟨cs,t,ht,h⟩ | ⟨es,ck,h⟩
 ·rw [h] at h2
  cases h2
  revert ht
  unfold FT DT
  decide
 ·rw [h] at h2;cases h2
theorem kr_byte {w:World} {k:Nat} (h:KR w k) (cs:Array Value):w.heap[k]?≠some (.cells cs 5 (0,0)):=by
 obtain ⟨cs2,t2,ht2,h2⟩:=h
 intro h3
 rw [h2] at h3
 cases h3
 exact RT.byte ht2
section
variable {X X' Y:Nat→Prop} {w w' w1 w2:World} {db rb n:Nat} {p p':DP} {x:Dd}
theorem row_only {K:Nat→Prop} {e size n:Nat} {v:Value} {xs:List Value} (h:RowX X w e size v n xs) (hK:∀ k cs,w.heap[k]?=some (.cells cs e (0,0))→K k):RowX (fun k=>X k∧K k) w e size v n xs :=
 ⟨h.1,fun k hk=>⟨h.2 k hk,by obtain ⟨cur,h1⟩:=h.block hk;exact hK k _ h1⟩⟩
theorem PD.only (h:PD X w db p):PD (fun k=>X k∧KD w k) w db p:=by
 obtain ⟨M1,M2,v3,v4,q,fs,V,C,fb,hD,hF,ht⟩:=h
 refine ⟨M1,M2,v3,v4,q,fs,V,C,fb,⟨hD.blk,hD.m1,hD.m2,hD.ne,⟨hD.inX,.inl ⟨_,_,.inr (.inl rfl),hD.blk⟩⟩,⟨hD.inX1,.inr ⟨_,_,hD.m1⟩⟩,⟨hD.inX2,.inr ⟨_,_,hD.m2⟩⟩,hD.ok1,hD.ok2,row_only hD.chs (fun k cs hk=>.inl ⟨_,_,.inr (.inr (.inl rfl)),hk⟩),row_only hD.wrs (fun k cs hk=>.inl ⟨_,_,.inr (.inr (.inr rfl)),hk⟩)⟩,⟨hF.blk,fun f hf=>⟨hF.inX f hf,.inl ⟨_,_,.inl (.inl rfl),hF.blk f hf⟩⟩,fun f hf b=>row_only (hF.row f hf b) (fun k cs hk=>.inl ⟨_,_,.inl (.inr rfl),hk⟩),hF.inj⟩,ht⟩
theorem RD.only (h:RD X w rb p):RD (fun k=>X k∧KR w k) w rb p:=by
 obtain ⟨vd,vc,vf,vw,V,L,W,hv⟩:=h
 exact ⟨vd,vc,vf,vw,V,L,W,hv.only⟩
theorem KD.lt {k:Nat} (h:KD w k):k<w.heap.size:=by
 rcases h with ⟨cs,t,_,h⟩ | ⟨es,ck,h⟩ <;> exact (Array.getElem?_eq_some_iff.1 h).1
theorem KR.lt {k:Nat} (h:KR w k):k<w.heap.size:=by
 obtain ⟨cs,t,_,h⟩:=h
 exact (Array.getElem?_eq_some_iff.1 h).1
theorem KD.off {k:Nat} (h:KD w k) (hf:Fr Y w w') (hy:¬ Y k):KD w' k:=h.imp (fun ⟨cs,t,ht,h⟩=>⟨cs,t,ht,hf.heap h hy⟩) (fun ⟨es,ck,h⟩=>⟨es,ck,hf.heap h hy⟩)
theorem KR.off {k:Nat} (h:KR w k) (hf:Fr Y w w') (hy:¬ Y k):KR w' k:=by
 obtain ⟨cs,t,ht,h⟩:=h
 exact ⟨cs,t,ht,hf.heap h hy⟩
structure Cnt (p:DP) (n:Nat):Prop where
 after:p.after≤9223372036854775807
 chs:p.chs.length≤n
 wrs:p.wrs.length≤n
 fls:p.files.length≤n
theorem Cnt.mono {n':Nat} (h:Cnt p n) (hn:n≤n'):Cnt p n':=⟨h.after,Nat.le_trans h.chs hn,Nat.le_trans h.wrs hn,Nat.le_trans h.fls hn⟩
theorem Cnt.fail (h:Cnt p n):Cnt (failP p).2 n:=by
 obtain ⟨h1,h2,h3,h4,h5⟩:=failP_files p
 refine ⟨?_,by rw [h2];exact h.chs,by rw [h4];exact h.wrs,by rw [h1];exact h.fls⟩
 have:=h.after
 unfold failP
 split
 ·exact this
 ·split
  ·show p.after-1≤_;omega
  ·exact this
theorem Cnt.doP (h:Cnt p n) (hx:x.n≤9223372036854775807):Cnt (Go.Proofs.YtekajggjoeimoaaGreatDoor.doP p x).2.2 (n+1):=by
 have hf:=h.fail
 have hs:=hf.mono (Nat.le_succ n)
 have h1:=hf.chs
 have h2:=hf.wrs
 have h3:=hf.fls
 unfold Go.Proofs.YtekajggjoeimoaaGreatDoor.doP
 split
 ·simp only [createP];split;exact hs;split;exact hs;split;exact hs;split;exact hs;exact ⟨hf.after,by simp;omega,by show (failP p).2.wrs.length≤_;omega,by simp;omega⟩
 ·split
  ·simp only [removeP];split;exact hs;split;exact hs;exact ⟨hf.after,by simp;omega,by show (failP p).2.wrs.length≤_;omega,by show (failP p).2.files.length≤_;omega⟩
  ·split
   ·simp only [renameP];split;exact hs;split;exact hs;split;exact hs;exact ⟨hf.after,by simp;omega,by show (failP p).2.wrs.length≤_;omega,by show (failP p).2.files.length≤_;omega⟩
   ·split
    ·simp only [growP];split;exact hs;split;exact hs;split;exact hs;split;exact hs;exact ⟨hf.after,by show (failP p).2.chs.length≤_;omega,by show (failP p).2.wrs.length≤_;omega,by simp;omega⟩
    ·split
     ·simp only [writeP];split;exact hs;split;exact hs;split;exact hs;split;exact hs;exact ⟨hf.after,by show (failP p).2.chs.length≤_;omega,by simp;omega,by show (failP p).2.files.length≤_;omega⟩
     ·split
      ·simp only [readP];split;exact hs;exact hs
      ·split
       ·simp only [syncP];split;exact hs;split;exact hs
        refine ⟨hf.after,by show (failP p).2.chs.length≤_;omega,?_,by simp;omega⟩
        have:=List.length_filter_le (fun y:PW=>decide (y.id≠‹Nat›)) (failP p).2.wrs
        exact Nat.le_trans this (by omega)
       ·split
        ·simp only [syncdirP];split;exact hs;exact ⟨hf.after,by simp,by show (failP p).2.wrs.length≤_;omega,by show (failP p).2.files.length≤_;omega⟩
        ·split
         ·have:=h.chs;have:=h.wrs;have:=h.fls;exact ⟨hx,by show p.chs.length≤_;omega,by show p.wrs.length≤_;omega,by show p.files.length≤_;omega⟩
         ·split
          ·have:=h.fls;exact ⟨h.after,by simp [crashP],by simp [crashP],by show (crashW x.keep 0 p.wrs p.files).length≤_;rw [crashW_len];omega⟩
          ·exact h.mono (Nat.le_succ n)
structure Dk (X:Nat→Prop) (w:World) (db:Nat) (p:DP) (n:Nat):Prop where
 pd:PD X w db p
 kind:∀ k,X k→KD w k
 arm:ArmOK p
 cnt:Cnt p n
structure Rk (X:Nat→Prop) (w:World) (rb:Nat) (p:DP) (n:Nat):Prop where
 rd:RD X w rb p
 wf:WF p
 kind:∀ k,X k→KR w k
 cnt:Cnt p n
theorem Dk.pa (h:Dk X w db p n) (hn:n≤1000):PA X w db p:=⟨h.pd,fun k hk=>(h.kind k hk).lt,h.cnt.after,Nat.le_trans h.cnt.chs hn,Nat.le_trans h.cnt.wrs hn⟩
theorem Rk.ra (h:Rk X w rb p n) (hn:n≤1000):RA X w rb p:=⟨h.rd,h.wf,fun k hk=>(h.kind k hk).lt,fun k cs hk=>kr_byte (h.kind k hk) cs,h.cnt.after,Nat.le_trans h.cnt.chs hn,Nat.le_trans h.cnt.wrs hn,Nat.le_trans h.cnt.fls hn⟩
theorem Dk.off (h:Dk X w db p n) (hf:Fr Y w w') (hY:∀ k,X k→¬ Y k):Dk X w' db p n:=⟨h.pd.off (FrF.of_fr hf) hY,fun k hk=>(h.kind k hk).off hf (hY k hk),h.arm,h.cnt⟩
theorem Rk.off (h:Rk X w rb p n) (hf:Fr Y w w') (hY:∀ k,X k→¬ Y k) (hb:∀ k cs,Y k→w.heap[k]?≠some (.cells cs 5 (0,0))):Rk X w' rb p n:=by
 obtain ⟨vd,vc,vf,vw,V,L,W,hv⟩:=h.rd
 exact ⟨⟨vd,vc,vf,vw,V,L,W,hv.keep (fun _ h=>h) (Same.of_fr hf (fun k hx hy=>absurd hy (hY k hx))) (KB.of_fr hf hb)⟩,h.wf,fun k hk=>(h.kind k hk).off hf (hY k hk),h.cnt⟩
def Up (B:Nat) (X:Nat→Prop):Prop:=∀ k,X k→B≤k
def Sub (w:World) (X X':Nat→Prop):Prop:=∀ k,X' k→X k∨w.heap.size≤k
theorem Sub.up {B:Nat} (h:Sub w X X') (hX:Up B X) (hB:B≤w.heap.size):Up B X':=fun k hk=>(h k hk).elim (hX k) (fun h=>Nat.le_trans hB h)
theorem Dk.only (h:PD X w db p) (ha:ArmOK p) (hc:Cnt p n):Dk (fun k=>X k∧KD w k) w db p n:=⟨h.only,fun k hk=>hk.2,ha,hc⟩
theorem Rk.only (h:RD X w rb p) (hw:WF p) (hc:Cnt p n):Rk (fun k=>X k∧KR w k) w rb p n:=⟨h.only,hw,fun k hk=>hk.2,hc⟩
theorem do_step {Ap Ak:Option Addr} {cp ck:Nat} (h:Dk X w db p n) (hn:n≤1000) (hg:GlobAt w) (h0:¬ X 0) (hd:DdIn X w x Ap Ak) :
 Calls Tryz.prog 12 #[.pointer (some ⟨db,0,none⟩),x.val Ap cp Ak ck] w fun e w'=>e=.returned (.tuple #[.int .i64 (doP p x).1,.string (doP p x).2.1])∧(∃ X',Dk X' w' db (doP p x).2.2 (n+1)∧Sub w X X')∧Fr X w w':=by
 refine (do_any (h.pa hn) hg h0 h.arm hd).mono ?_
 rintro e w' ⟨rfl,h1,h2⟩
 exact ⟨rfl,⟨_,Dk.only h1 (h.arm.doP x) (h.cnt.doP hd.n.2),fun k hk=>hk.1⟩,h2⟩
theorem mo_step {Ap Ak:Option Addr} {cp ck:Nat} (h:Rk X w rb p n) (hn:n≤1000) (hd:DmIn X w x Ap Ak) (hwf:WF (doP p x).2.2) (hx:x.n≤9223372036854775807) :
 Calls Tryz.prog 13 #[.pointer (some ⟨rb,0,none⟩),x.val Ap cp Ak ck] w fun e w'=>e=.returned (.tuple #[.int .i64 (doP p x).1,.string (doP p x).2.1])∧(∃ X',Rk X' w' rb (doP p x).2.2 (n+1)∧Sub w X X')∧Fr X w w':=by
 refine (mo_any (h.ra hn) hd).mono ?_
 rintro e w' ⟨rfl,h1,h2⟩
 exact ⟨rfl,⟨_,Rk.only h1 hwf (h.cnt.doP hx),fun k hk=>hk.1⟩,h2⟩
theorem fr_below {B:Nat} (hf:Fr X w w') (hX:Up B X) (hB:B≤w.heap.size):Below B w w':=Fr.below hf hB hX
theorem GlobAt.fr (hg:GlobAt w) (hf:Fr X w w') (h0:¬ X 0):GlobAt w':=hg.off (FrF.of_fr hf) h0
end
end
section
open Go.RowKit
open Da
def Both (B:Nat) (w:World) (db rb:Nat) (p:DP) (n:Nat):Prop:=∃ X1 X2,Dk X1 w db p n∧Up B X1∧Rk X2 w rb p n∧Up B X2
def Mid (B:Nat) (w:World) (db rb:Nat) (p p':DP) (n:Nat):Prop:=∃ X1 X2,Dk X1 w db p' (n+1)∧Up B X1∧Rk X2 w rb p n∧Up B X2
theorem DdAt.below {B:Nat} {w w':World} {ad:Addr} {d:Dm} (h1:DdAt B w ad d) (hb:Below B w w') (hk:ad.block<B):DdAt B w' ad d :=
 ⟨(hb.cell hk).trans h1.c0,(hb.cell (p:=⟨_,_,none⟩) hk).trans h1.c1,(hb.cell (p:=⟨_,_,none⟩) hk).trans h1.c2,(hb.cell (p:=⟨_,_,none⟩) hk).trans h1.c3,(hb.cell (p:=⟨_,_,none⟩) hk).trans h1.c4,(hb.cell (p:=⟨_,_,none⟩) hk).trans h1.c5,fun W hW=>h1.rp W (hb.trans hW),fun W hW=>h1.rk W (hb.trans hW),h1.n,h1.sa,h1.sb,h1.sp,h1.sk⟩
section
variable {w w':World} {db rb n B:Nat} {p p':DP} {x:Dd} {Ap Ak:Option Addr} {cp ck:Nat}
theorem Both.below (h:Both B w db rb p n) (hb:Below w.heap.size w w'):Both B w' db rb p n:=by
 obtain ⟨X1,X2,h1,h2,h3,h4⟩:=h
 exact ⟨X1,X2,h1.off (Fr.of_below (X:=fun _=>False) hb) (fun _ _ h=>h),h2,h3.off (Fr.of_below (X:=fun _=>False) hb) (fun _ _ h=>h) (fun _ _ h=>h.elim),h4⟩
theorem Both.mono {B':Nat} (h:Both B w db rb p n) (hB:B'≤B):Both B' w db rb p n:=by
 obtain ⟨X1,X2,h1,h2,h3,h4⟩:=h
 exact ⟨X1,X2,h1,fun k hk=>Nat.le_trans hB (h2 k hk),h3,fun k hk=>Nat.le_trans hB (h4 k hk)⟩
theorem ddin_of {X:Nat→Prop} (hp:RdB B w Ap x.p.size (bvals x.p)) (hk:RdB B w Ak x.keep.length (x.keep.map (.int .i64))) (hf:Few x) (hn:-9223372036854775808≤x.n∧x.n≤9223372036854775807) (hX:Up B X) (hB:B≤w.heap.size):DdIn X w x Ap Ak :=
 ⟨fun W0 h=>hp W0 (fr_below h hX hB),fun W0 h=>hk W0 (fr_below h hX hB),by have:=hf.1;omega,by have:=hf.1;omega,by have:=hf.2.1;omega,by have:=hf.2.2;omega,hn⟩
theorem dmin_of {X:Nat→Prop} (hp:RdB B w Ap x.p.size (bvals x.p)) (hk:RdB B w Ak x.keep.length (x.keep.map (.int .i64))) (hf:Few x) (hX:Up B X) (hB:B≤w.heap.size):DmIn X w x Ap Ak :=
 ⟨fun W0 h=>hp W0 (fr_below h hX hB),fun W0 h=>hk W0 (fr_below h hX hB),by have:=hf.1;omega,by have:=hf.1;omega,by have:=hf.2.1;omega,by have:=hf.2.2;omega⟩
theorem do_both (h:Both B w db rb p n) (hn:n≤999) (h1:1≤B) (hB:B≤w.heap.size) (hg:GlobAt w) (hp:RdB B w Ap x.p.size (bvals x.p)) (hk:RdB B w Ak x.keep.length (x.keep.map (.int .i64))) (hf:Few x) (hx:-9223372036854775808≤x.n∧x.n≤9223372036854775807) :
 Calls Tryz.prog 12 #[.pointer (some ⟨db,0,none⟩),x.val Ap cp Ak ck] w fun e w'=>e=.returned (.tuple #[.int .i64 (doP p x).1,.string (doP p x).2.1])∧Mid B w' db rb p (doP p x).2.2 n∧GlobAt w'∧Below B w w':=by
 obtain ⟨X1,X2,hD,hU1,hR,hU2⟩:=h
 have h0:¬ X1 0:=fun h=>by have:=hU1 0 h;omega
 refine (do_step hD (by omega) hg h0 (ddin_of hp hk hf hx hU1 hB)).mono ?_
 rintro e w' ⟨rfl,⟨X1',hD',hs⟩,hf'⟩
 exact ⟨rfl,⟨X1',X2,hD',hs.up hU1 hB,hR.off hf' (fun k h2 h1=>kd_kr (hD.kind k h1) (hR.kind k h2)) (fun k cs hk=>kd_byte (hD.kind k hk) cs),hU2⟩,hg.fr hf' h0,fr_below hf' hU1 hB⟩
theorem mo_both (h:Mid B w db rb p (doP p x).2.2 n) (hn:n≤999) (h1:1≤B) (hB:B≤w.heap.size) (hg:GlobAt w) (hp:RdB B w Ap x.p.size (bvals x.p)) (hk:RdB B w Ak x.keep.length (x.keep.map (.int .i64))) (hf:Few x) (hx:-9223372036854775808≤x.n∧x.n≤9223372036854775807) :
 Calls Tryz.prog 13 #[.pointer (some ⟨rb,0,none⟩),x.val Ap cp Ak ck] w fun e w'=>e=.returned (.tuple #[.int .i64 (doP p x).1,.string (doP p x).2.1])∧Both B w' db rb (doP p x).2.2 (n+1)∧GlobAt w'∧Below B w w':=by
 obtain ⟨X1,X2,hD,hU1,hR,hU2⟩:=h
 have h0:¬ X2 0:=fun h=>by have:=hU2 0 h;omega
 refine (mo_step hR (by omega) (dmin_of hp hk hf hU2 hB) hD.pd.wf hx.2).mono ?_
 rintro e w' ⟨rfl,⟨X2',hR',hs⟩,hf'⟩
 exact ⟨rfl,⟨X1,X2',hD.off hf' (fun k h1 h2=>kd_kr (hD.kind k h1) (hR.kind k h2)),hU1,hR',hs.up hU2 hB⟩,hg.fr hf' h0,fr_below hf' hU2 hB⟩
theorem alike_both (h:Both B w db rb p n) (hn:n≤1000) :
 Calls Tryz.prog 14 #[.pointer (some ⟨db,0,none⟩),.pointer (some ⟨rb,0,none⟩)] w fun e w'=>e=.returned (.bool true)∧Below w.heap.size w w':=by
 obtain ⟨X1,X2,hD,hU1,hR,hU2⟩:=h
 exact alike_0 (hD.pa hn) (hR.ra hn)
theorem cnt_new (room:Int):Cnt (newP room) 0:=⟨by show (0:Int)≤_;omega,Nat.le_refl _,Nat.le_refl _,Nat.le_refl _⟩
theorem arm_new (room:Int):ArmOK (newP room):=fun h=>by cases h
end
theorem GlobAt.below {w w':World} (hg:GlobAt w) (hb:Below w.heap.size w w'):GlobAt w':=(hb.cell (p:=⟨0,0,none⟩) (World.block_lt_of_cell? w _ hg)).trans hg
theorem glob_lt {w:World} (hg:GlobAt w):1≤w.heap.size:=World.block_lt_of_cell? w _ hg
theorem both_new {w w1 w2:World} {db rb:Nat} {room:Int} (h1:PD (fun k=>w.heap.size≤k) w1 db (newP room)) (hb1:Below w.heap.size w w1) (h2:RD (fun k=>w1.heap.size≤k) w2 rb (newP room)) (hb2:Below w1.heap.size w1 w2):Both w.heap.size w2 db rb (newP room) 0 :=
 ⟨_,_,(Dk.only h1 (arm_new _) (cnt_new _)).off (Fr.of_below (X:=fun _=>False) hb2) (fun _ _ h=>h),fun k hk=>hk.1,Rk.only h2 h1.wf (cnt_new _),fun k hk=>Nat.le_trans hb1.size hk.1⟩
end
section
open Go.ChangeShapes Go.WideShapes Go.ChangeAt Go.RowKit Go.Joins Go.Deep
section
variable {H:Type} {enc:TypeId × Value→H} {P:Program} {w:World} {base:Nat} {spare:Nat→Bool} {held:Bool}
theorem open_slice_fields {t e:TypeId} {fs:Array Field} {fuel:Nat} {cs:List Value} {x:DataW H × List MemPlace} (ht:P.underlying t=some (.slice e)) (he:P.underlying e=some (.struct fs))
 (hone:oneCellFields P fs=true) (hC:P.cellsOf e=fs.size) (h:DataW.trod enc P w base spare held fuel t cs=some x) :
 (cs=[.slice none 0 0]∧x=(.nil,[])) ∨
 ∃ (a:Addr) (len cap m:Nat) (D:Nat→DataW H) (Pl:Nat→List MemPlace),cs=[.slice (some a) len cap]∧base≤a.block∧len≤cap∧cap≤maxLen∧m=(if spare a.block then cap else len) ∧
  x=(.slice ((List.range len).map D) ((List.range (m-len)).map fun j=>D (len+j)),MemPlace.row a (m*fs.size)++(List.range m).flatMap Pl) ∧
  ∀ i,i<m→∃ (ys:List (DataW H × List MemPlace)) (n:Nat),D i=.agg (ys.map (·.1))∧Pl i=ys.flatMap (·.2)∧ys.length=fs.size ∧
   ∀ (j:Nat) (f:Field),fs[j]?=some f→∃ (v:Value) (y:DataW H × List MemPlace),w.cell? (a.add (i*fs.size+j))=some v∧ys[j]?=some y∧DataW.trod enc P w base spare held n f.type [v]=some y:=by
 rcases open_slice ht h with h0 | ⟨a,len,cap,m,n,D,Pl,hcs,hb,hl,hm,hmm,hx,hi⟩
 ·exact .inl h0
 ·refine .inr ⟨a,len,cap,m,D,Pl,hcs,hb,hl,hm,hmm,by rw [hC] at hx;exact hx,fun i him=>?_⟩
  obtain ⟨cs',hc,ht'⟩:=hi i him
  rw [hC] at hc
  obtain ⟨ys,n',hn',hy,hlen,hyl,hf⟩:=DataW.trod_struct he ht'
  obtain ⟨_,hcl,hat⟩:=World.cells?_some hc
  simp only [Prod.mk.injEq] at hy
  refine ⟨ys,n',hy.1,hy.2,hyl,fun j f hj=>?_⟩
  obtain ⟨ho,hk⟩:=hone_of hone j f hj
  have hjl:j<fs.size:=(Array.getElem?_eq_some_iff.1 hj).1
  have hcell:=hat j hjl
  have hv:cs'[j]?=some (cs'[j]'(by omega)):=List.getElem?_eq_getElem (by omega)
  have h1:=hf j f hj
  rw [ho,hk] at h1
  have hone':(cs'.drop j).take 1=[cs'[j]'(by omega)]:=by
   rw [List.drop_eq_getElem_cons (by omega)]
   rfl
  rw [hone'] at h1
  have hys:ys[j]?=some (ys[j]'(by omega)):=List.getElem?_eq_getElem (by omega)
  refine ⟨_,_,?_,hys,h1.trans hys⟩
  rw [←Go.Deep.add_add,hcell,hv]
theorem weightsAll_mem {e:TypeId}:∀ {l:List (DataW H)} {d:DataW H},d∈l→∀ n∈d.weights P e,n∈DataW.weightsAll P e l
 | d'::r,d,hd,n,hn=>by
  simp only [DataW.weightsAll,List.mem_append]
  rcases List.mem_cons.1 hd with rfl | h
  ·exact Or.inl hn
  ·exact Or.inr (weightsAll_mem h n hn)
def Light (P:Program) (t:TypeId) (d:DataW H):Prop:=∀ n∈d.weights P t,n≤reachBytes
theorem light_of {ts:List TypeId} {ds:List (DataW H)} {j:Nat} {t:TypeId} {d:DataW H} (h:(DataW.weightsEach P ts ds).all (·≤reachBytes)=true) (ht:ts[j]?=some t) (hd:ds[j]?=some d):Light P t d :=
 fun n hn=>of_decide_eq_true (List.all_eq_true.1 h _ (DataW.weights_mem_each ht hd n hn))
theorem Light.elem {t e:TypeId} {elems sp:List (DataW H)} {d:DataW H} (h:Light P t (.slice elems sp)) (hu:P.underlying t=some (.slice e)) (hd:d∈elems):Light P e d:=fun n hn=>h n (by
 simp only [DataW.weights,hu,List.mem_cons,List.mem_append]
 exact .inr (.inl (weightsAll_mem hd n hn)))
theorem Light.part {t:TypeId} {fs:Array Field} {parts:List (DataW H)} {j:Nat} {f:Field} {d:DataW H} (h:Light P t (.agg parts)) (hu:P.underlying t=some (.struct fs)) (hf:fs[j]?=some f) (hd:parts[j]?=some d):Light P f.type d:=fun n hn=>h n (by
 simp only [DataW.weights,hu]
 refine DataW.weights_mem_each (j:=j) (t:=f.type) ?_ hd n hn
 rw [List.getElem?_map,Array.getElem?_toList,hf]
 rfl)
theorem Light.str {t:TypeId} {l:List UInt8} (h:Light (H:=H) P t (.lit (.string l))):l.length≤reachBytes:=h _ (by simp [DataW.weights])
theorem Light.len {t e:TypeId} {elems sp:List (DataW H)} (h:Light P t (.slice elems sp)) (hu:P.underlying t=some (.slice e)) (hb:0<P.bytesOf e):elems.length≤reachBytes:=by
 have:=h ((elems.length+sp.length)*P.bytesOf e) (by simp [DataW.weights,hu])
 have h2:elems.length+sp.length≤(elems.length+sp.length)*P.bytesOf e:=Nat.le_mul_of_pos_right _ hb
 omega
end
section
variable {H:Type} {enc:TypeId × Value→H} {w:World} {base:Nat} {held:Bool}
theorem add_off (a:Addr) (i j:Nat) (hj:0<j):a.add (i+j)=⟨(a.add i).block,(a.add i).off+j,none⟩:=by
 unfold Addr.add
 by_cases hi:i=0
 ·subst hi;rw [if_neg (by omega),if_pos rfl,Nat.zero_add]
 ·rw [if_neg (by omega),if_neg hi];simp [Nat.add_assoc]
theorem rdB_nil {B:Nat}:RdB B w none 0 []:=fun W _=>Reads.none_
theorem ints_of {fuel:Nat} {v:Value} {y:DataW H × List MemPlace} (h:DataW.trod enc Tryz.prog w base (fun _=>true) held fuel 37 [v]=some y) (hL:Light Tryz.prog 37 y.1) :
 ∃ (A:Option Addr) (c:Nat) (l:List Int),v=.slice A l.length c∧RdB w.heap.size w A l.length (l.map (.int .i64))∧l.length≤140737488351232:=by
 rcases open_ints Tryz.underlying37 Tryz.underlying3 (by kernel_rfl) h with ⟨hcs,_⟩ | ⟨x,l,c,zs,hcs,_,hl,hm,hz,hy,hcell,hwz⟩
 ·simp at hcs
  exact ⟨none,0,[],hcs,rdB_nil,by simp⟩
 ·simp at hcs hz
  have hlt:(zs.take l).length=l:=by rw [List.length_take];omega
  have hll:=hL
  rw [hy] at hll
  have hw:=hll.len Tryz.underlying37 (of_decide_eq_true (by kernel_rfl))
  unfold lits at hw
  rw [List.length_map,hlt] at hw
  refine ⟨some x,c,zs.take l,by rw [hcs,hlt],fun W hW=>⟨by simp,fun h0=>?_⟩,by rw [hlt];exact hw⟩
  rw [hlt] at h0
  have c0:=hcell 0 (by omega)
  have hb:=World.block_lt_of_cell? w _ c0
  have hbx:x.block<w.heap.size:=by simpa [Addr.add] using hb
  refine ⟨x,rfl,Nat.lt_of_lt_of_le hbx hW.size,fun j u hu=>?_⟩
  rw [hW.cell (by unfold Addr.add;split <;> exact hbx)]
  rw [List.getElem?_map,List.getElem?_take] at hu
  by_cases hj:j<l
  ·rw [if_pos hj] at hu
   rw [hcell j (by omega)]
   cases hzj:zs[j]? with
   | none=>rw [hzj] at hu;cases hu
   | some z=>rw [hzj] at hu;simpa [List.getD_eq_getElem?_getD,hzj] using hu
  ·rw [if_neg hj] at hu;cases hu
theorem bytes_of {zs:List Int} (h:∀ n∈zs,0≤n∧n<256):∃ s:ByteArray,s.size=zs.length∧bvals s=zs.map (.int .u8):=by
 refine ⟨⟨(zs.map fun n=>UInt8.ofNat n.toNat).toArray⟩,by simp [ByteArray.size],?_⟩
 unfold bvals
 simp only [List.map_map]
 refine List.map_congr_left fun n hn=>?_
 obtain ⟨h1,h2⟩:=h n hn
 simp only [Function.comp,Value.int.injEq,true_and]
 rw [UInt8.toNat_ofNat']
 omega
theorem bytes_in {fuel:Nat} {v:Value} {y:DataW H × List MemPlace} (h:DataW.trod enc Tryz.prog w base (fun _=>true) held fuel 36 [v]=some y) (hL:Light Tryz.prog 36 y.1) :
 ∃ (A:Option Addr) (c:Nat) (s:ByteArray),v=.slice A s.size c∧RdB w.heap.size w A s.size (bvals s)∧s.size≤140737488351232:=by
 rcases open_ints Tryz.underlying36 Tryz.underlying5 (by kernel_rfl) h with ⟨hcs,_⟩ | ⟨x,l,c,zs,hcs,_,hl,hm,hz,hy,hcell,hwz⟩
 ·simp at hcs
  exact ⟨none,0,ByteArray.empty,hcs,rdB_nil,by simp⟩
 ·simp at hcs hz
  have hlt:(zs.take l).length=l:=by rw [List.length_take];omega
  have hll:=hL
  rw [hy] at hll
  have hw:=hll.len Tryz.underlying36 (of_decide_eq_true (by kernel_rfl))
  unfold lits at hw
  rw [List.length_map,hlt] at hw
  obtain ⟨s,hs,hsb⟩:=bytes_of (zs:=zs.take l) (fun n hn=>by
   have:=hwz n (List.mem_of_mem_take hn)
   have e1:IntKind.u8.min=0:=rfl
   have e2:IntKind.u8.max=255:=rfl
   simp [Lit.wf] at this
   omega)
  rw [hlt] at hs
  refine ⟨some x,c,s,by rw [hcs,hs],fun W hW=>⟨by rw [hsb,List.length_map,hlt,hs];simp,fun h0=>?_⟩,by rw [hs];exact hw⟩
  rw [hs] at h0
  have c0:=hcell 0 (by omega)
  have hb:=World.block_lt_of_cell? w _ c0
  have hbx:x.block<w.heap.size:=by simpa [Addr.add] using hb
  refine ⟨x,rfl,Nat.lt_of_lt_of_le hbx hW.size,fun j u hu=>?_⟩
  rw [hW.cell (by unfold Addr.add;split <;> exact hbx)]
  rw [hsb,List.getElem?_map,List.getElem?_take] at hu
  by_cases hj:j<l
  ·rw [if_pos hj] at hu
   rw [hcell j (by omega)]
   cases hzj:zs[j]? with
   | none=>rw [hzj] at hu;cases hu
   | some z=>rw [hzj] at hu;simpa [List.getD_eq_getElem?_getD,hzj] using hu
  ·rw [if_neg hj] at hu;cases hu
theorem list_of {P:Nat→Dm→Prop}:∀ (n:Nat),(∀ i,i<n→∃ d,P i d)→∃ ds:List Dm,ds.length=n∧∀ i d,ds[i]?=some d→P i d
 | 0,_=>⟨[],rfl,fun i d h=>by simp at h⟩
 | n+1,h=>by
  obtain ⟨ds,hl,hd⟩:=list_of n (fun i hi=>h i (by omega))
  obtain ⟨d,hP⟩:=h n (by omega)
  refine ⟨ds++[d],by simp [hl],fun i x hx=>?_⟩
  by_cases hi:i<ds.length
  ·rw [List.getElem?_append_left hi] at hx;exact hd i x hx
  ·rw [List.getElem?_append_right (by omega)] at hx
   have:=(List.getElem?_eq_some_iff.1 hx).1
   simp at this
   obtain rfl:i=n:=by omega
   rw [hl,Nat.sub_self] at hx
   cases hx
   exact hP
theorem deeds_of {fuel:Nat} {v:Value} {y:DataW H × List MemPlace} (h:DataW.trod enc Tryz.prog w base (fun _=>true) held fuel 22 [v]=some y) (hL:Light Tryz.prog 22 y.1):∃ A c ds,v=.slice A ds.length c∧DeedsAt w.heap.size w A ds∧ds.length≤9223372036854775807:=by
 rcases open_slice_fields Tryz.underlying22 Tryz.underlying39 (by kernel_rfl) (by kernel_rfl) h with ⟨hcs,_⟩ | ⟨a,len,cap,m,D,Pl,hcs,_,hl,hm,hmm,hy,hf⟩
 ·simp at hcs
  exact ⟨none,0,[],hcs,fun k d hd=>by simp at hd,by simp⟩
 ·simp at hcs hmm
  subst hmm
  rw [hy] at hL
  obtain ⟨ds,hdl,hd⟩:=list_of (P:=fun i d=>DdAt w.heap.size w (a.add (i*6)) d) len (fun i hi=>by
   obtain ⟨ys,n,hD,_,_,hy⟩:=hf i (by omega)
   have hLi:Light Tryz.prog 39 (.agg (ys.map (·.1))):=hD ▸ hL.elem Tryz.underlying22 (List.mem_map.2 ⟨i,List.mem_range.2 hi,rfl⟩)
   have hLp:∀ (j:Nat) (f:Field) (y:DataW H × List MemPlace),(#[_,_,_,_,_,_]:Array Field)[j]?=some f→ys[j]?=some y→Light Tryz.prog f.type y.1:=fun j f y hf hy=>hLi.part Tryz.underlying39 hf (by rw [List.getElem?_map,hy];rfl)
   obtain ⟨v0,y0,e0,_,t0⟩:=hy 0 _ rfl
   obtain ⟨v1,y1,e1,z1,t1⟩:=hy 1 _ rfl
   obtain ⟨v2,y2,e2,z2,t2⟩:=hy 2 _ rfl
   obtain ⟨v3,y3,e3,_,t3⟩:=hy 3 _ rfl
   obtain ⟨v4,y4,e4,z4,t4⟩:=hy 4 _ rfl
   obtain ⟨v5,y5,e5,z5,t5⟩:=hy 5 _ rfl
   obtain ⟨kd,hc0,_⟩:=DataW.trod_int Tryz.underlying3 t0
   obtain ⟨sa,hc1,hy1,_⟩:=DataW.trod_string Tryz.underlying9 t1
   obtain ⟨sb,hc2,hy2,_⟩:=DataW.trod_string Tryz.underlying9 t2
   obtain ⟨n3,hc3,_,wf⟩:=DataW.trod_int Tryz.underlying3 t3
   have l1:=hLp 1 _ y1 rfl z1
   have l2:=hLp 2 _ y2 rfl z2
   rw [hy1] at l1
   rw [hy2] at l2
   have s1:=l1.str
   have s2:=l2.str
   obtain ⟨A4,c4,s,rfl,hr4,hl4⟩:=bytes_in t4 (hLp 4 _ y4 rfl z4)
   obtain ⟨A5,c5,ks,rfl,hr5,hl5⟩:=ints_of t5 (hLp 5 _ y5 rfl z5)
   simp only [List.cons.injEq,and_true] at hc0 hc1 hc2 hc3
   subst hc0 hc1 hc2 hc3
   refine ⟨⟨⟨kd,sa,sb,n3,s,ks⟩,A4,c4,A5,c5⟩,e0,(add_off a (i*6) 1 (by omega)) ▸ e1,(add_off a (i*6) 2 (by omega)) ▸ e2,(add_off a (i*6) 3 (by omega)) ▸ e3,(add_off a (i*6) 4 (by omega)) ▸ e4,(add_off a (i*6) 5 (by omega)) ▸ e5,hr4,hr5,?_,?_,?_,hl4,hl5⟩
   ·have e1:IntKind.i64.min=-9223372036854775808:=rfl
    have e2:IntKind.i64.max=9223372036854775807:=rfl
    simp [Lit.wf] at wf
    show -9223372036854775808≤n3∧n3≤9223372036854775807
    omega
   ·simpa [reachBytes] using s1
   ·simpa [reachBytes] using s2)
  refine ⟨some a,_,ds,by rw [hcs,hdl],fun k d hk=>⟨a,rfl,?_,hd k d hk⟩,by simp [maxLen] at hm;omega⟩
  have:=World.block_lt_of_cell? w _ (hd k d hk).c0
  rw [add_block] at this
  exact this
end
end
section
def putF:Nat→Nat→List UInt8
 | 0,_=>[]
 | f+1,n=>if n<128 then [UInt8.ofNat n] else UInt8.ofNat (n % 128+128)::putF f (n / 128)
def putN (n:Nat):List UInt8:=putF 10 n
def getF:Nat→Nat→List UInt8→Nat × Nat × Int
 | 0,_,_=>(0,0,11)
 | f+1,i,[]=>(0,0,10)
 | f+1,i,c::r =>
  if i=9∧1<c.toNat then (0,0,11)
  else if c.toNat<128 then (if 0<i∧c.toNat=0 then (0,0,12) else (c.toNat,1,0))
  else if (getF f (i+1) r).2.2=0 then (c.toNat-128+128*(getF f (i+1) r).1,(getF f (i+1) r).2.1+1,0) else (0,0,(getF f (i+1) r).2.2)
def getN (b:List UInt8):Nat × Nat × Int:=getF 10 0 b
theorem u8_small {n:Nat} (h:n<256):(UInt8.ofNat n).toNat=n:=by rw [UInt8.toNat_ofNat'];omega
theorem u8_back (c:UInt8):UInt8.ofNat c.toNat=c:=by simp
theorem get_put:∀ (f i n:Nat) (r:List UInt8),f+i=10→0<f→(i=9→n<2)→n<128 ^ f→n<2 ^ (64-7*i)→(0<i→0<n)→getF f i (putF f n++r)=(n,(putF f n).length,0)
 | 0,_,_,_,_,h,_,_,_,_=>absurd h (by omega)
 | f+1,i,n,r,hf,_,h9,hp,h64,hi=>by
  unfold putF
  by_cases h:n<128
  ·rw [if_pos h]
   have e:(UInt8.ofNat n).toNat=n:=u8_small (by omega)
   show getF (f+1) i (UInt8.ofNat n::r)=_
   unfold getF
   rw [e,if_neg (fun hh=>by have:=h9 hh.1;omega),if_pos h,if_neg (fun hh=>by have:=hi hh.1;omega)]
   rfl
  ·rw [if_neg h]
   have e:(UInt8.ofNat (n % 128+128)).toNat=n % 128+128:=u8_small (by omega)
   have hi9:i≠9:=fun hh=>by have:=h9 hh;omega
   have hf0:0<f:=by omega
   have hdiv:n / 128<128 ^ f:=by rw [Nat.pow_succ] at hp;exact Nat.div_lt_of_lt_mul (by rw [Nat.mul_comm];exact hp)
   have h64':n / 128<2 ^ (64-7*(i+1)):=by
    refine Nat.div_lt_of_lt_mul ?_
    rw [show (128:Nat)=2 ^ 7 from rfl,←Nat.pow_add,show 7+(64-7*(i+1))=64-7*i by omega]
    exact h64
   have ih:=get_put f (i+1) (n / 128) r (by omega) hf0 (fun hh=>by
    have h8:i=8:=by omega
    subst h8
    have:n<2 ^ 8:=h64
    omega) hdiv h64' (fun _=>by omega)
   show getF (f+1) i (UInt8.ofNat (n % 128+128)::(putF f (n / 128)++r))=_
   unfold getF
   rw [e,if_neg (fun hh=>hi9 hh.1),if_neg (by omega),ih,if_pos rfl]
   simp only [List.length_cons,Prod.mk.injEq,and_true]
   omega
theorem put_get:∀ (f i:Nat) (b:List UInt8),f+i=10→(getF f i b).2.2=0→b.take (getF f i b).2.1=putF f (getF f i b).1∧(getF f i b).2.1≤b.length∧0<(getF f i b).2.1∧(0<i→0<(getF f i b).1)∧(getF f i b).1<2 ^ (64-7*i)
 | 0,i,b,_,h=>by simp [getF] at h
 | f+1,i,[],_,h=>by simp [getF] at h
 | f+1,i,c::r,hf,h=>by
  have hc:c.toNat<256:=c.toNat_lt
  unfold getF at h ⊢
  by_cases h9:i=9∧1<c.toNat
  ·rw [if_pos h9] at h;simp at h
  ·rw [if_neg h9] at h ⊢
   by_cases hs:c.toNat<128
   ·rw [if_pos hs] at h ⊢
    by_cases h0:0<i∧c.toNat=0
    ·rw [if_pos h0] at h;simp at h
    ·rw [if_neg h0]
     refine ⟨?_,by simp,by simp,fun hi=>?_,?_⟩
     ·show [c]=putF (f+1) c.toNat
      unfold putF
      rw [if_pos hs,u8_back]
     ·show 0<c.toNat
      have:¬ c.toNat=0:=fun hh=>h0 ⟨hi,hh⟩
      omega
     ·show c.toNat<2 ^ (64-7*i)
      by_cases e9:i=9
      ·subst e9
       have:¬ 1<c.toNat:=fun hh=>h9 ⟨rfl,hh⟩
       show c.toNat<2 ^ 1
       omega
      ·have hi8:i≤8:=by omega
       exact Nat.lt_of_lt_of_le (show c.toNat<2 ^ 8 by omega) (Nat.pow_le_pow_right (by omega) (by omega))
   ·rw [if_neg hs] at h ⊢
    by_cases he:(getF f (i+1) r).2.2=0
    ·rw [if_pos he]
     obtain ⟨h1,h2,h3,h4,h5⟩:=put_get f (i+1) r (by omega) he
     have hn:=h4 (by omega)
     refine ⟨?_,by simpa using h2,Nat.succ_pos _,fun _=>by show 0<c.toNat-128+128*(getF f (i+1) r).1;omega,?_⟩
     ·show (c::r).take ((getF f (i+1) r).2.1+1)=_
      rw [List.take_succ_cons,h1]
      show _=putF (f+1) (c.toNat-128+128*(getF f (i+1) r).1)
      rw [putF,if_neg (by omega),show (c.toNat-128+128*(getF f (i+1) r).1) % 128+128=c.toNat by omega,show (c.toNat-128+128*(getF f (i+1) r).1) / 128=(getF f (i+1) r).1 by omega,u8_back]
     ·show c.toNat-128+128*(getF f (i+1) r).1<2 ^ (64-7*i)
      have hi8:i≤8:=by
       have:i≤9:=by omega
       rcases Nat.lt_or_ge i 9 with h | h
       ·omega
       ·exfalso
        have:i=9:=by omega
        exact h9 ⟨this,by omega⟩
      rw [show 64-7*i=7+(64-7*(i+1)) by omega,Nat.pow_add]
      have:(2:Nat) ^ 7=128:=rfl
      rw [this]
      have h6:(getF f (i+1) r).1+1≤2 ^ (64-7*(i+1)):=h5
      have:=Nat.mul_le_mul_left 128 h6
      omega
    ·rw [if_neg he] at h;exact absurd h he
theorem putN_getN {b:List UInt8} (h:(getN b).2.2=0):b.take (getN b).2.1=putN (getN b).1∧(getN b).2.1≤b.length∧0<(getN b).2.1∧(getN b).1<18446744073709551616:=by
 obtain ⟨h1,h2,h3,_,h5⟩:=put_get 10 0 b rfl h
 exact ⟨h1,h2,h3,h5⟩
theorem getF_err:∀ (f i:Nat) (b:List UInt8),(getF f i b).2.2≠0→(getF f i b).1=0∧(getF f i b).2.1=0
 | 0,i,b,_=>⟨rfl,rfl⟩
 | f+1,i,[],_=>⟨rfl,rfl⟩
 | f+1,i,c::r,h=>by
  unfold getF at h ⊢
  by_cases h9:i=9∧1<c.toNat
  ·rw [if_pos h9];exact ⟨rfl,rfl⟩
  ·rw [if_neg h9] at h ⊢
   by_cases hs:c.toNat<128
   ·rw [if_pos hs] at h ⊢
    by_cases h0:0<i∧c.toNat=0
    ·rw [if_pos h0];exact ⟨rfl,rfl⟩
    ·rw [if_neg h0] at h;exact absurd rfl h
   ·rw [if_neg hs] at h ⊢
    by_cases he:(getF f (i+1) r).2.2=0
    ·rw [if_pos he] at h;exact absurd rfl h
    ·rw [if_neg he];exact ⟨rfl,rfl⟩
theorem putF_len:∀ (f n:Nat),(putF f n).length≤f
 | 0,_=>Nat.le_refl _
 | f+1,n=>by
  unfold putF
  split
  ·simp
  ·simp only [List.length_cons]
   have:=putF_len f (n / 128)
   omega
theorem putN_len (n:Nat):(putN n).length≤10:=putF_len 10 n
def putB (s:List UInt8):List UInt8:=putN s.length++s
def getB (b:List UInt8):List UInt8 × Nat × Int :=
 if (getN b).2.2≠0 then ([],0,(getN b).2.2)
 else if b.length-(getN b).2.1<(getN b).1 then ([],0,10)
 else ((b.drop (getN b).2.1).take (getN b).1,(getN b).2.1+(getN b).1,0)
theorem putB_getB {b:List UInt8} (h:(getB b).2.2=0):b.take (getB b).2.1=putB (getB b).1∧(getB b).2.1≤b.length∧0<(getB b).2.1:=by
 unfold getB at h ⊢
 split at h
 ·rename_i hh;exact absurd h hh
 ·rename_i hh
  have hh':(getN b).2.2=0:=by simpa using hh
  rw [if_neg hh]
  split at h
  ·simp at h
  ·rename_i hl
   rw [if_neg hl]
   obtain ⟨h1,h2,h3,h4⟩:=putN_getN hh'
   refine ⟨?_,by show (getN b).2.1+(getN b).1≤_;omega,by show 0<(getN b).2.1+(getN b).1;omega⟩
   show b.take ((getN b).2.1+(getN b).1)=putB ((b.drop (getN b).2.1).take (getN b).1)
   unfold putB
   rw [List.take_add,h1,List.length_take,List.length_drop,Nat.min_eq_left (by omega)]
end
section
open Go.Sort
abbrev Fl:=List UInt8 × List ByteArray
def secB (l:List ByteArray):List UInt8:=l.flatMap fun s=>s.data.toList
def fileB (x:Fl):List UInt8:=putB x.1++(putN x.2.length++secB x.2)
def saveL (l:List Fl):List UInt8:=l.flatMap fileB
def secs:Nat→List UInt8→List ByteArray
 | 0,_=>[]
 | k+1,b=>⟨(b.take 64).toArray⟩::secs k (b.drop 64)
def takeF (last:List UInt8) (nf:Nat) (b:List UInt8):Option (Fl × List UInt8) :=
 if (getB b).2.2≠0∨nameOK ⟨(getB b).1.toArray⟩=false∨(getB b).1≤last∨8≤nf then none
 else if (getN (b.drop (getB b).2.1)).2.2≠0∨4096<(getN (b.drop (getB b).2.1)).1∨(b.drop ((getB b).2.1+(getN (b.drop (getB b).2.1)).2.1)).length<64*(getN (b.drop (getB b).2.1)).1 then none
 else some (((getB b).1,secs (getN (b.drop (getB b).2.1)).1 (b.drop ((getB b).2.1+(getN (b.drop (getB b).2.1)).2.1))),(b.drop ((getB b).2.1+(getN (b.drop (getB b).2.1)).2.1)).drop (64*(getN (b.drop (getB b).2.1)).1))
def loadL:Nat→List UInt8→Nat→List UInt8→Option (List Fl)
 | _,_,_,[]=>some []
 | 0,_,_,_::_=>none
 | f+1,last,nf,c::b=>match takeF last nf (c::b) with
  | none=>none
  | some (x,r)=>(loadL f x.1 (nf+1) r).map (x :: ·)
theorem secs_len:∀ (k:Nat) (b:List UInt8),(secs k b).length=k
 | 0,_=>rfl
 | k+1,b=>by simp [secs,secs_len k]
theorem secB_len:∀ (l:List ByteArray),(∀ s∈l,s.size=64)→(secB l).length=64*l.length
 | [],_=>rfl
 | s::l,h=>by
  have hs:s.data.toList.length=64:=by rw [Array.length_toList];exact h s List.mem_cons_self
  have e:secB (s::l)=s.data.toList++secB l:=by unfold secB;rw [List.flatMap_cons]
  rw [e,List.length_append,hs,secB_len l (fun t ht=>h t (by simp [ht])),List.length_cons]
  omega
theorem secB_secs:∀ (k:Nat) (b:List UInt8),64*k≤b.length→secB (secs k b)=b.take (64*k)∧∀ s∈secs k b,s.size=64
 | 0,b,_=>⟨by simp [secs,secB],fun s hs=>by simp [secs] at hs⟩
 | k+1,b,h=>by
  obtain ⟨h1,h2⟩:=secB_secs k (b.drop 64) (by simp;omega)
  refine ⟨?_,fun s hs=>?_⟩
  ·have e:secB (secs (k+1) b)=b.take 64++secB (secs k (b.drop 64)):=by simp [secs,secB]
   rw [e,h1,show 64*(k+1)=64+64*k by omega,List.take_add]
  ·simp only [secs,List.mem_cons] at hs
   rcases hs with rfl | hs
   ·simp [ByteArray.size];omega
   ·exact h2 s hs
theorem put_takeF {last:List UInt8} {nf:Nat} {x:Fl} {b r:List UInt8} (h:takeF last nf b=some (x,r)):b=fileB x++r∧nameOK ⟨x.1.toArray⟩=true∧(¬ x.1≤last)∧nf<8∧x.2.length≤4096∧(∀ s∈x.2,s.size=64)∧r.length<b.length:=by
 unfold takeF at h
 split at h
 ·cases h
 ·rename_i h1
  split at h
  ·cases h
  ·rename_i h2
   simp only [not_or,Bool.not_eq_false] at h1
   obtain ⟨a1,a2,a3,a4⟩:=h1
   simp only [not_or] at h2
   obtain ⟨b1,b2,b3⟩:=h2
   have a1':(getB b).2.2=0:=by simpa using a1
   have b1':(getN (b.drop (getB b).2.1)).2.2=0:=by simpa using b1
   obtain ⟨p1,p2,p3⟩:=putB_getB a1'
   obtain ⟨q1,q2,q3,q4⟩:=putN_getN b1'
   simp only [Option.some.injEq,Prod.mk.injEq] at h
   obtain ⟨rfl,rfl⟩:=h
   have b3':64*(getN (b.drop (getB b).2.1)).1≤(b.drop ((getB b).2.1+(getN (b.drop (getB b).2.1)).2.1)).length:=by omega
   obtain ⟨s1,s2⟩:=secB_secs _ _ b3'
   refine ⟨?_,a2,a3,by omega,by rw [secs_len];omega,s2,?_⟩
   ·show b=putB (getB b).1++(putN (secs _ _).length++secB (secs _ _))++_
    rw [secs_len,s1,←p1,←q1,←List.drop_drop]
    simp only [List.append_assoc]
    rw [List.take_append_drop,List.take_append_drop,List.take_append_drop]
   ·simp only [List.length_drop];omega
theorem save_load:∀ (f:Nat) (last:List UInt8) (nf:Nat) (b:List UInt8) (l:List Fl),loadL f last nf b=some l→saveL l=b∧nf+l.length≤max nf 8∧(∀ x∈l,nameOK ⟨x.1.toArray⟩=true∧x.2.length≤4096∧∀ s∈x.2,s.size=64)∧(∀ x∈l,¬ x.1≤last)∧l.Pairwise (fun x y=>¬ y.1≤x.1)
 | _,_,nf,[],l,h=>by
  have h':some ([]:List Fl)=some l:=by unfold loadL at h;exact h
  cases h'
  exact ⟨rfl,by simp;omega,fun x hx=>(by cases hx),fun x hx=>(by cases hx),List.Pairwise.nil⟩
 | 0,_,_,_::_,l,h=>by unfold loadL at h;cases h
 | f+1,last,nf,c::b,l,h=>by
  rw [loadL] at h
  split at h
  ·cases h
  ·rename_i x r ht
   obtain ⟨l',hl',rfl⟩:=Option.map_eq_some_iff.1 h
   obtain ⟨e,t1,t2,t3,t4,t5,t6⟩:=put_takeF ht
   obtain ⟨i1,i2,i3,i4,i5⟩:=save_load f x.1 (nf+1) r l' hl'
   refine ⟨?_,by simp;omega,?_,?_,List.pairwise_cons.2 ⟨i4,i5⟩⟩
   ·rw [e,←i1];unfold saveL;rw [List.flatMap_cons]
   ·intro y hy
    rcases List.mem_cons.1 hy with rfl | hy
    ·exact ⟨t1,t4,t5⟩
    ·exact i3 y hy
   ·intro y hy
    rcases List.mem_cons.1 hy with rfl | hy
    ·exact t2
    ·exact fun hle=>i4 y hy (List.le_of_lt (List.lt_of_le_of_lt hle (List.not_le.1 t2)))
end
section
open Go.RowKit
def bl (l:List UInt8):List Value:=l.map fun c=>.int .u8 (c.toNat:Int)
theorem bl_len (l:List UInt8):(bl l).length=l.length:=by simp [bl]
theorem bl_append (l m:List UInt8):bl (l++m)=bl l++bl m:=by simp [bl]
theorem bl_one (l:List UInt8):∀ u∈bl l,u.oneCell'=true:=by
 intro u hu
 obtain ⟨c,_,rfl⟩:=List.mem_map.1 hu
 rfl
theorem u8_hi (m:Nat):(UInt8.ofNat (m % 128+128)).toNat=m % 128+128:=u8_small (by omega)
theorem bl_hi (pre:List UInt8) (m:Nat):bl pre++[Value.int .u8 ((m:Int) % 128+128)]=bl (pre++[UInt8.ofNat (m % 128+128)]):=by
 rw [bl_append]
 show _=bl pre++[Value.int .u8 (((UInt8.ofNat (m % 128+128)).toNat:Nat):Int)]
 rw [u8_hi]
 simp
theorem bl_lo (pre:List UInt8) {m:Nat} (h:m<128):bl pre++[Value.int .u8 (m:Int)]=bl (pre++[UInt8.ofNat m]):=by
 rw [bl_append]
 show _=bl pre++[Value.int .u8 (((UInt8.ofNat m).toNat:Nat):Int)]
 rw [u8_small (by omega)]
def PutRel (w:World) (n:Nat) (nv out:Value) (wr:World):Prop :=
 Below w.heap.size w wr∧∃ (j m:Nat) (pre:List UInt8) (A:Option Addr) (c:Nat),j≤9∧nv=.int .u64 m∧out=.slice A pre.length c∧wr.ownsRow w.heap.size 5 1 out pre.length (bl pre)∧putN n=pre++putF (10-j) m∧pre.length=j∧m<2 ^ (64-7*j)
set_option maxHeartbeats 2000000 in
set_option maxRecDepth 100000 in
theorem RNPut_any (n:Nat) (hn:n<18446744073709551616) (w:World) :
 Calls Tryz.prog 66 #[.int .u64 n] w fun e w'=>∃ v,e=.returned v∧w'.ownsRow w.heap.size 5 1 v (putN n).length (bl (putN n))∧Below w.heap.size w w':=by
 go_enter Tryz.func66,Tryz.ntmps66
 go_wp2
 go_loopw [0,3] (fun nv out wr=>PutRel w n nv out wr) (fun nv _ _=>(intOf nv).toNat)
 case atStart=>exact ⟨Below.refl _ _,0,n,[],none,0,by omega,rfl,rfl,World.ownsRow_nil _ _ _ _,rfl,rfl,hn⟩
 case round =>
  obtain ⟨hB,j,m,pre,A,c,hj,rfl,rfl,ho,hp,hpl,hm⟩:=hrel
  obtain ⟨wo,rfl⟩:∃ wo,wo=wr:=⟨wr,rfl⟩
  have hm64:m<18446744073709551616:=Nat.lt_of_lt_of_le hm (show 2 ^ (64-7*j)≤2 ^ 64 from Nat.pow_le_pow_right (by omega) (by omega))
  have hpre:pre.length≤9:=by omega
  have hs:=hB.size
  have HR:=Lib.hid (And.intro hp (And.intro hpl hm))
  clear hp hpl hm
  by_cases h:128≤m
  ·have d1:decide (128≤m)=true:=by simpa using h
   have d2:decide ((128:Int)≤(m:Nat))=true:=by simp;omega
   go_wp2_with (at_builtin;refine list_push TBy rfl rfl w.heap.size rfl (ho.alloc _) rfl (reads_blk (cs:=#[.int .u8 ((m:Int) % 128+128)]) (blk_newH _ _ _ rfl) rfl) (by intro u hu;simp at hu;subst hu;rfl) (by omega) (by simp;omega) rfl (ys:=bl (pre++[UInt8.ofNat (m % 128+128)])) (bl_hi pre m) ?_;intro A2 c2 w2 ho2 hg2 hl2)
   all_goals
    go_roundw
    case rel =>
     obtain ⟨hp,hpl,hm⟩:=HR.out
     have hj8:j≤8:=by
      rcases Nat.lt_or_ge j 9 with h | h
      ·omega
      ·exfalso
       have:j=9:=by omega
       subst this
       have:m<2 ^ 1:=hm
       omega
     refine ⟨(hB.alloc hB.size _).grown hg2 (by simp;omega) (fun k e=>(ho.lt k e).1),j+1,m / 128,pre++[UInt8.ofNat (m % 128+128)],A2,c2,by omega,by go_num,by rw [List.length_append];rfl,by rw [List.length_append];exact ho2,?_,by rw [List.length_append,hpl];rfl,?_⟩
     ·rw [hp,show 10-j=(10-(j+1))+1 by omega,putF,if_neg (by omega),List.append_assoc];rfl
     ·refine Nat.div_lt_of_lt_mul ?_
      rw [show (128:Nat)=2 ^ 7 from rfl,←Nat.pow_add,show 7+(64-7*(j+1))=64-7*j by omega]
      exact hm
    case measure=>simp [intOf];omega
  ·have d1:decide (128≤m)=false:=by simpa using h
   have d2:decide ((128:Int)≤(m:Nat))=false:=by simp;omega
   go_wp2_with (at_builtin;refine list_push TBy rfl rfl w.heap.size rfl (ho.alloc _) rfl (reads_blk (cs:=#[.int .u8 (m:Int)]) (blk_newH _ _ _ rfl) rfl) (by intro u hu;simp at hu;subst hu;rfl) (by omega) (by simp;omega) rfl (ys:=bl (pre++[UInt8.ofNat m])) (bl_lo pre (by omega)) ?_;intro A2 c2 w2 ho2 hg2 hl2)
   all_goals
    go_ret
    obtain ⟨hp,hpl,hm⟩:=HR.out
    have e:putN n=pre++[UInt8.ofNat m]:=by rw [hp,show 10-j=(9-j)+1 by omega,putF,if_pos (by omega)]
    rw [e]
    exact ⟨_,rfl,by rw [List.length_append];exact ho2,(hB.alloc hB.size _).grown hg2 (by simp;omega) (fun k e=>(ho.lt k e).1)⟩
end
section
open Go.RowKit
namespace Vp
open Ev
def tk (k:Nat):Value:=.chan (some k)
def cvA (s d:TypeId) (x:Value):Option Value:=match x with
 | .chan (some 0)=>cond (Nat.beq s 124 && Nat.beq d 5) (some (tk 1)) none
 | .chan (some 4)=>cond (Nat.beq s 124 && Nat.beq d 5) (some (tk 5)) none
 | _=>none
def fA:List Fact:=[⟨.geq,tk 0,.int .u64 128,.bool false⟩]
def fB:List Fact:=[⟨.geq,tk 0,.int .u64 128,.bool true⟩,⟨.and,tk 1,.int .u8 127,tk 2⟩,⟨.or,tk 2,.int .u8 128,tk 3⟩,⟨.shr,tk 0,.int .u64 7,tk 4⟩,⟨.geq,tk 4,.int .u64 128,.bool false⟩]
noncomputable def Cv (fs:List Fact):Ctx:=CT (fun _=>none) (fun _=>none) methT fs [] cvA (fun _=>false)
def tokEq:List Value→List Nat→Bool
 | [],[]=>true
 | .chan (some k)::l,t::ts=>Nat.beq k t && tokEq l ts
 | _,_=>false
noncomputable def isToks (ts:List Nat) (r:Option (Value × AS)):Bool:=match r with
 | some (.slice (some a) n _,s)=>(match readN s a n with
  | some l=>tokEq l ts
  | none=>false)
 | _=>false
set_option maxRecDepth 1000000
theorem runA:isToks [1] ((ev (Cv fA) 1000).f 59 [tk 0] ⟨0,.leaf⟩)=true:=by kernel_rfl
theorem runB:isToks [3,5] ((ev (Cv fB) 1000).f 59 [tk 0] ⟨0,.leaf⟩)=true:=by kernel_rfl
def om (n:Nat):Nat→Value
 | 0=>.int .u64 (n:Nat)
 | 1=>.int .u8 (n % 256:Nat)
 | 2=>.int .u8 (n % 128:Nat)
 | 3=>.int .u8 (n % 128+128:Nat)
 | 4=>.int .u64 (n / 128:Nat)
 | 5=>.int .u8 (n / 128:Nat)
 | _=>.nilIface
theorem land_127 (n:Nat):Nat.land (n % 256) 127=n % 128:=by
 have:=Nat.and_two_pow_sub_one_eq_mod (n % 256) 7
 show n % 256 &&& 127=_
 rw [show (127:Nat)=2 ^ 7-1 from rfl,this]
 omega
theorem lor_128 (n:Nat):Nat.lor (n % 128) 128=n % 128+128:=by
 have:128+n % 128=128 ||| n % 128:=by simpa using Nat.two_pow_add_eq_or_of_lt (i:=7) (b:=n % 128) (by omega) 1
 show n % 128 ||| 128=_
 rw [Nat.or_comm]
 omega
theorem fA_ok {n:Nat} (h:n<128):∀ f∈fA,f.ok (om n) Tryz.prog:=by
 intro f hf
 simp only [fA,List.mem_cons,List.not_mem_nil,or_false] at hf
 subst hf
 exact Fact.geq (ω:=om n) (p:=n) (q:=128) rfl rfl rfl rfl (decide_eq_false (by omega))
theorem fB_ok {n:Nat} (h:128≤n) (h2:n<16384):∀ f∈fB,f.ok (om n) Tryz.prog:=by
 intro f hf
 simp only [fB,List.mem_cons,List.not_mem_nil,or_false] at hf
 rcases hf with rfl | rfl | rfl | rfl | rfl
 ·exact Fact.geq (ω:=om n) (p:=n) (q:=128) rfl rfl rfl rfl (decide_eq_true (by omega))
 ·refine Fact.int (ω:=om n) (k:=.u8) (p:=(n % 256:Nat)) (q:=127) rfl rfl rfl rfl rfl rfl (fun t=>?_)
  refine (opF_sound .and .u8 (n % 256) 127 (.int .u8 (.ofNat (Nat.land (n % 256) 127))) t ?_).trans ?_
  ·show andF .u8 (n % 256) 127=_
   unfold andF smallK
   rw [show Nat.blt (n % 256) (topK .u8)=true by rw [Nat.blt_eq];show n % 256<256;omega]
   rfl
  ·rw [land_127];rfl
 ·refine Fact.int (ω:=om n) (k:=.u8) (p:=(n % 128:Nat)) (q:=128) rfl rfl rfl rfl rfl rfl (fun t=>?_)
  refine (opF_sound .or .u8 (n % 128) 128 (.int .u8 (.ofNat (Nat.lor (n % 128) 128))) t ?_).trans ?_
  ·show orF .u8 (n % 128) 128=_
   unfold orF smallK
   rw [show Nat.blt (n % 128) (topK .u8)=true by rw [Nat.blt_eq];show n % 128<256;omega]
   rfl
  ·rw [lor_128];rfl
 ·refine Fact.int (ω:=om n) (k:=.u64) (p:=n) (q:=7) rfl rfl rfl rfl rfl rfl (fun t=>?_)
  exact shF_sound .shr .u64 .u64 n 7 _ t rfl
 ·exact Fact.geq (ω:=om n) (p:=(n / 128:Nat)) (q:=128) rfl rfl rfl rfl (decide_eq_false (by omega))
theorem tokEq_ok {ω:Nat→Value} {m:M ω}:∀ (l:List Value) (ts:List Nat) (l':List Value),tokEq l ts=true→LRel m l l'→l'=ts.map ω
 | [],[],l',_,h=>by
  have:=h.1
  cases l' with
  | nil=>rfl
  | cons _ _=>simp at this
 | v::l,[],l',h,_=>by cases v <;> simp [tokEq] at h
 | [],_::_,_,h,_=>by simp [tokEq] at h
 | v::l,t::ts,l',h,hr=>by
  cases l' with
  | nil=>have:=hr.1;simp at this
  | cons x l' =>
   have key:∃ k,v=.chan (some k)∧Nat.beq k t=true∧tokEq l ts=true:=by
    unfold tokEq at h
    split at h
    ·rename_i h1 _;cases h1
    ·rename_i k l2 t2 ts2 h1 h2
     cases h1;cases h2
     rw [Bool.and_eq_true] at h
     exact ⟨k,rfl,h.1,h.2⟩
    ·cases h
   obtain ⟨k,rfl,h1,h2⟩:=key
   obtain ⟨r1,r2⟩:=hr.tail
   rw [tok_inv r1,Nat.eq_of_beq_eq_true h1,tokEq_ok l ts l' h2 r2]
   rfl
theorem cvA_ok {n:Nat} (hn:n<16384) (h128:n<128∨128≤n):∀ src dst x v,cvA src dst x=some v→∀ (m:M (om n)) (x':Value) (w:World),VRel m x x'→∃ v',(convert src dst x').run Tryz.prog w=.ok v' w∧VRel m v v':=by
 intro src dst x v h m x' w hx
 have hk:Tryz.prog.intKind 5=.u8:=by kernel_rfl
 unfold cvA at h
 split at h
 ·cases hc:(Nat.beq src 124 && Nat.beq dst 5) with
  | false=>rw [hc] at h;cases h
  | true =>
   rw [hc] at h
   cases h
   rw [Bool.and_eq_true] at hc
   obtain rfl:=Nat.eq_of_beq_eq_true hc.1
   obtain rfl:=Nat.eq_of_beq_eq_true hc.2
   obtain rfl:=tok_inv hx
   have hr:=run_convert_int (P:=Tryz.prog) w 124 5 .u64 n (by kernel_rfl) (by kernel_rfl)
   rw [hk] at hr
   have e:IntKind.u8.wrap (n:Int)=((n % 256:Nat):Int):=by rw [IntKind.wrap_u8];omega
   rw [e] at hr
   exact ⟨_,hr,VRel.tok (ω:=om n) 1 rfl⟩
 ·cases hc:(Nat.beq src 124 && Nat.beq dst 5) with
  | false=>rw [hc] at h;cases h
  | true =>
   rw [hc] at h
   cases h
   rw [Bool.and_eq_true] at hc
   obtain rfl:=Nat.eq_of_beq_eq_true hc.1
   obtain rfl:=Nat.eq_of_beq_eq_true hc.2
   obtain rfl:=tok_inv hx
   have hr:=run_convert_int (P:=Tryz.prog) w 124 5 .u64 (n / 128:Nat) (by kernel_rfl) (by kernel_rfl)
   rw [hk] at hr
   have e:IntKind.u8.wrap ((n / 128:Nat):Int)=((n / 128:Nat):Int):=by rw [IntKind.wrap_u8];omega
   rw [e] at hr
   exact ⟨_,hr,VRel.tok (ω:=om n) 5 rfl⟩
 ·cases h
theorem cvOK {n:Nat} {fs:List Fact} (hn:n<16384) (hf:∀ f∈fs,f.ok (om n) Tryz.prog):COK (om n) (Cv fs) :=
 ⟨ctOK (fun _=>none) (fun _=>none) methT_ok hf (fun f h=>by cases h) (cvA_ok hn (by omega)) (fun _=>false),mixed,fun g k h=>by cases h⟩
theorem put_of {n:Nat} {fs:List Fact} {ts:List Nat} (hC:COK (om n) (Cv fs)) (hr:isToks ts ((ev (Cv fs) 1000).f 59 [tk 0] ⟨0,.leaf⟩)=true) (hl:ts≠[]) (w:World) :
 Calls Tryz.prog 59 #[.int .u64 n] w fun e w'=>∃ A c,e=.returned (.slice A ts.length c)∧Reads w' w'.heap.size 1 A ts.length (ts.map (om n))∧Below w.heap.size w w':=by
 unfold isToks at hr
 split at hr
 ·rename_i a k c s h
  split at hr
  ·rename_i l hl2
   have key:=((sound hC 1000).2.2.2.1 59 [tk 0] _ _ s h w.heap.size _ _ w #[.int .u64 n] (sr_empty w) (LRel.cons (VRel.tok (ω:=om n) 0 rfl) (LRel.nil _)) ⟨Nat.le_refl _,fun g v h=>(by cases h),fun k h=>(by cases h),fun g cs h=>(by cases h)⟩).2 rfl
   refine (callsIn_wide.1 (key.2 0)).mono ?_
   rintro e w' ⟨v',rfl,m',_,hs,hv,hb⟩
   obtain ⟨p',c',rfl,hor⟩:=slice_inv hv
   rcases hor with ⟨hp,_,_⟩ | ⟨h0,_,_⟩
   ·obtain ⟨l',r1,r2,r3⟩:=readN_sound hs hl2 hp
    have e:=tokEq_ok l ts l' hr r1
    have hk:k=ts.length:=by rw [←r2,e];simp
    subst hk
    refine ⟨some p',c',rfl,⟨by simp,fun h0=>⟨p',rfl,?_,fun j x hx=>r3 j x (by rw [e];exact hx)⟩⟩,hb⟩
    cases ts with
    | nil=>exact absurd rfl hl
    | cons t ts =>
     have:=r3 0 (om n t) (by rw [e];rfl)
     have:=World.block_lt_of_cell? w' _ this
     unfold Addr.add at this
     simpa using this
   ·exfalso
    subst h0
    have:=readN_zero hl2
    subst this
    cases ts with
    | nil=>exact hl rfl
    | cons t ts=>simp [tokEq] at hr
  ·cases hr
 ·cases hr
end Vp
theorem VPut_any (n:Nat) (hn:n<16384) (w:World) :
 Calls Tryz.prog 59 #[.int .u64 n] w fun e w'=>∃ A c,e=.returned (.slice A (putN n).length c)∧Reads w' w'.heap.size 1 A (putN n).length (bl (putN n))∧Below w.heap.size w w':=by
 by_cases h:n<128
 ·have e:putN n=[UInt8.ofNat n]:=by unfold putN;rw [putF,if_pos h]
  have hb:bl (putN n)=[1].map (Vp.om n):=by
   rw [e]
   show [Value.int .u8 (((UInt8.ofNat n).toNat:Nat):Int)]=[Value.int .u8 ((n % 256:Nat):Int)]
   rw [u8_small (by omega),show n % 256=n by omega]
  have hlen:(putN n).length=[1].length:=by rw [e];rfl
  rw [hb,hlen]
  exact Vp.put_of (Vp.cvOK hn (Vp.fA_ok h)) Vp.runA (by simp) w
 ·have e:putN n=[UInt8.ofNat (n % 128+128),UInt8.ofNat (n / 128)]:=by unfold putN;rw [putF,if_neg h,putF,if_pos (by omega)]
  have hb:bl (putN n)=[3,5].map (Vp.om n):=by
   rw [e]
   show [Value.int .u8 (((UInt8.ofNat (n % 128+128)).toNat:Nat):Int),Value.int .u8 (((UInt8.ofNat (n / 128)).toNat:Nat):Int)]=[Value.int .u8 ((n % 128+128:Nat):Int),Value.int .u8 ((n / 128:Nat):Int)]
   rw [u8_hi,u8_small (by omega)]
  have hlen:(putN n).length=[3,5].length:=by rw [e];rfl
  rw [hb,hlen]
  exact Vp.put_of (Vp.cvOK hn (Vp.fB_ok (by omega) hn)) Vp.runB (by simp) w
end
section
open Go.RowKit
set_option maxHeartbeats 2000000 in
set_option maxRecDepth 100000 in
theorem RNPutB_any {B:Nat} (A:Option Addr) (c:Nat) (s:List UInt8) (w:World) (hB:B≤w.heap.size) (hr:Reads w B 1 A s.length (bl s)) (hs:s.length≤900000) :
 Calls Tryz.prog 65 #[.slice A s.length c] w fun e w'=>∃ v,e=.returned v∧w'.ownsRow w.heap.size 5 1 v (putB s).length (bl (putB s))∧Below w.heap.size w w':=by
 have hN:=RNPut_any s.length (by omega) w
 have hl:=putN_len s.length
 go_enter Tryz.func65,Tryz.ntmps65
 go_wp2_with (first
  | (go_at_call 66;refine hN.mono ?_;rintro e w1 ⟨v,rfl,ho,hb⟩;obtain ⟨A1,c1,rfl⟩:=own_formS ho)
  | (at_builtin;refine list_push TBy rfl rfl w.heap.size rfl ho rfl (hr.below (hb.mono hB)) (bl_one s) (by omega) hb.size rfl (ys:=bl (putB s)) (by unfold putB;rw [bl_append]) ?_;intro A2 c2 w2 ho2 hg2 hl2))
 all_goals
  go_ret
  have e:(putB s).length=(putN s.length).length+s.length:=by unfold putB;rw [List.length_append]
  rw [e]
  exact ⟨_,rfl,ho2,hb.grown hg2 hb.size (fun k e=>(ho.lt k e).1)⟩
def comb (n i:Nat) (g:Nat × Nat × Int):Nat × Nat × Int:=if g.2.2=0 then (n+128 ^ i*g.1,i+g.2.1,0) else (0,0,g.2.2)
theorem comb_0 (b:List UInt8):getN b=comb 0 0 (getF 10 0 b):=by
 unfold comb getN
 by_cases h:(getF 10 0 b).2.2=0
 ·rw [if_pos h]
  show _=(0+128 ^ 0*_,0+_,0)
  rw [←h]
  simp
 ·rw [if_neg h]
  obtain ⟨h1,h2⟩:=getF_err 10 0 b h
  rw [←h1,←h2]
  simp [h1,h2]
  rw [←h1]
  simp [Prod.ext_iff,h1,h2]
theorem comb_step {n i f:Nat} {c:UInt8} {r:List UInt8} (h1:¬ (i=9∧1<c.toNat)) (h2:¬ c.toNat<128):comb n i (getF (f+1) i (c::r))=comb (n+128 ^ i*(c.toNat-128)) (i+1) (getF f (i+1) r):=by
 have e:getF (f+1) i (c::r)=if (getF f (i+1) r).2.2=0 then (c.toNat-128+128*(getF f (i+1) r).1,(getF f (i+1) r).2.1+1,0) else (0,0,(getF f (i+1) r).2.2):=by
  rw [getF,if_neg h1,if_neg h2]
 rw [e]
 unfold comb
 by_cases h:(getF f (i+1) r).2.2=0
 ·rw [if_pos h,if_pos h,if_pos rfl]
  simp only [Prod.mk.injEq,and_true]
  refine ⟨?_,by omega⟩
  rw [Nat.mul_add,Nat.pow_succ,Nat.mul_assoc]
  omega
 ·rw [if_neg h,if_neg h,if_neg h]
end
section
open Go.RowKit
theorem read_at {B:Nat} {w:World} {A:Option Addr} {b:List UInt8} {i:Nat} {c:UInt8} (h:Reads w B 1 A b.length (bl b)) (hc:b[i]?=some c):∃ a,A=some a∧w.cell? (a.add i)=some (.int .u8 (c.toNat:Nat)):=by
 have hi:=(List.getElem?_eq_some_iff.1 hc).1
 obtain ⟨a,e,_,h2⟩:=h.2 (by omega)
 exact ⟨a,e,h2 i _ (by unfold bl;rw [List.getElem?_map,hc];rfl)⟩
def GetRel (w:World) (b:List UInt8) (n mul iv:Value) (wr:World):Prop :=
 Below w.heap.size w wr∧∃ (i s M:Nat),i≤9∧n=.int .u64 s∧mul=.int .u64 M∧M=128 ^ i∧iv=.int .i64 i∧s<128 ^ i∧getN b=comb s i (getF (10-i) i (b.drop i))
set_option maxHeartbeats 4000000 in
set_option maxRecDepth 100000 in
theorem RNGet_any {B:Nat} (A:Option Addr) (cc:Nat) (b:List UInt8) (w:World) (hB:B≤w.heap.size) (hr:Reads w B 1 A b.length (bl b)) (hl:b.length≤1000000) :
 Calls Tryz.prog 69 #[.slice A b.length cc] w fun e w'=>e=.returned (.tuple #[.int .u64 (getN b).1,.int .i64 (getN b).2.1,.int .i64 (getN b).2.2])∧Below w.heap.size w w':=by
 go_enter Tryz.func69,Tryz.ntmps69
 go_wp2
 go_loopw [5,6,7] (fun n mul iv wr=>GetRel w b n mul iv wr) (fun _ _ iv _=>10-(intOf iv).toNat)
 case atStart=>exact ⟨Below.refl _ _,0,0,1,by omega,rfl,rfl,rfl,rfl,by decide,by rw [comb_0];rfl⟩
 case round =>
  obtain ⟨hb,i,s,M,hi,rfl,rfl,hM,rfl,hs,hg⟩:=hrel
  obtain ⟨wo,rfl⟩:∃ wo,wo=wr:=⟨wr,rfl⟩
  have hro:=hr.below (hb.mono hB)
  have hM9:M≤9223372036854775808:=by rw [hM];exact Nat.le_trans (Nat.pow_le_pow_right (by omega) hi) (by decide)
  rw [←hM] at hs
  have HG:=Lib.hid (And.intro hg hM)
  clear hg hM
  have d0:decide ((i:Int)<10)=true:=by simp;omega
  by_cases h:i<b.length
  ·have d1:decide (b.length≤i)=false:=by simpa using h
   obtain ⟨c,hc⟩:∃ c,b[i]?=some c:=⟨_,List.getElem?_eq_getElem h⟩
   obtain ⟨a,rfl,hcell⟩:=read_at hro hc
   have hdrop:b.drop i=c::b.drop (i+1):=by
    rw [List.drop_eq_getElem_cons h]
    congr 1
    rw [List.getElem?_eq_getElem h] at hc
    exact Option.some.inj hc
   have hm256:c.toNat<256:=c.toNat_lt
   obtain ⟨m,hm⟩:∃ m,c.toNat=m:=⟨_,rfl⟩
   rw [hm] at hcell hm256
   have HC:=Lib.hid (And.intro hm (And.intro hc hdrop))
   clear hm hc hdrop hro
   have i0:(0:Int)≤(i:Int):=by omega
   have i1:(i:Int)<(b.length:Int):=by omega
   obtain ⟨hg,hM⟩:=HG.out
   obtain ⟨hm,hc,hdrop⟩:=HC.out
   have hg':getN b=comb s i (getF ((9-i)+1) i (c::b.drop (i+1))):=by rw [hg,hdrop,show 10-i=(9-i)+1 by omega]
   clear hg hc hdrop
   have HG2:=Lib.hid (And.intro hg' (And.intro hM hm))
   clear hg' hM hm HG HC
   by_cases k1:i=9∧1<m
   ·have hE:getN b=(0,0,11):=by
     obtain ⟨hg,hM,hm⟩:=HG2.out
     rw [hg,getF,if_pos (by rw [hm];exact k1)]
     rfl
    have HE:=Lib.hid hE
    clear hE HG2
    obtain ⟨k9,k2⟩:=k1
    have q1:((i:Int)==9)=true:=by simp;omega
    clear k9
    have q2:decide ((1:Int)<(m:Nat))=true:=by simp;omega
    have q3:decide (1<m)=true:=by simpa using k2
    go_wp2
    go_ret3
    rw [HE.out]
    exact ⟨rfl,hb⟩
   ·by_cases k3:m<128
    ·have hMi:(i=9→m≤1):=fun h=>by
      rcases Nat.lt_or_ge 1 m with h1 | h1
      ·exact absurd ⟨h,h1⟩ k1
      ·exact h1
     have hM8:i≠9→M≤72057594037927936:=fun h=>by rw [HG2.out.2.1];exact Nat.le_trans (Nat.pow_le_pow_right (by omega) (show i≤8 by omega)) (by decide)
     have hsum:s+m*M<18446744073709551616:=by
      by_cases h9:i=9
      ·have:=hMi h9
       have h1:m*M≤1*M:=Nat.mul_le_mul_right _ this
       omega
      ·have:=hM8 h9
       have h1:m*M≤127*72057594037927936:=Nat.mul_le_mul (by omega) this
       omega
     have hmod:(m:Int) % 128*(M:Int)=((m*M:Nat):Int):=by rw [show (m:Int) % 128=(m:Int) by omega];push_cast;rfl
     obtain ⟨t,ht⟩:∃ t,m*M=t:=⟨_,rfl⟩
     obtain ⟨u,hu⟩:∃ u,s+t=u:=⟨_,rfl⟩
     rw [ht] at hsum hmod
     have e1:IntKind.u64.wrap ((m:Int) % 128*(M:Int))=(t:Nat):=by rw [hmod,IntKind.wrap_u64];omega
     have e2:IntKind.u64.wrap ((s:Int)+(t:Nat))=(u:Nat):=by rw [IntKind.wrap_u64];omega
     have K1:=Lib.hid k1
     have K3:=Lib.hid k3
     have HT:=Lib.hid ht
     have HU:=Lib.hid hu
     have q6:decide ((m:Nat)<(128:Int))=true:=by simp;omega
     have q7:decide (m<128)=true:=by simpa using k3
     have hms:i=9→decide ((1:Int)<(m:Nat))=false∧decide (1<m)=false:=fun h=>by have:=hMi h;exact ⟨by simp;omega,by simp;omega⟩
     clear hmod hsum hM8 ht hu k1 k3 hMi
     by_cases k0:0<i
     ·have p1:decide ((0:Int)<(i:Nat))=true:=by simp;omega
      have p1':decide (0<i)=true:=by simpa using k0
      have K0:=Lib.hid k0
      by_cases km:m=0
      ·have p2:((m:Int)==0)=true:=by simp;omega
       have KM:=Lib.hid km
       by_cases k9:i=9
       ·have q1:((i:Int)==9)=true:=by simp;omega
        obtain ⟨q2,q2'⟩:=hms k9
        clear k9 km k0 hms
        have hE:getN b=(0,0,12):=by
         obtain ⟨hg,hM,hm⟩:=HG2.out
         rw [hg,getF,if_neg (by rw [hm];exact K1.out),if_pos (by rw [hm];exact K3.out),if_pos (by rw [hm];exact ⟨K0.out,KM.out⟩)]
         rfl
        have HE:=Lib.hid hE
        clear hE
        go_wp2
        go_ret3
        rw [HE.out]
        exact ⟨rfl,hb⟩
       ·have q1:((i:Int)==9)=false:=by simp;omega
        clear k9 km k0 hms
        have hE:getN b=(0,0,12):=by
         obtain ⟨hg,hM,hm⟩:=HG2.out
         rw [hg,getF,if_neg (by rw [hm];exact K1.out),if_pos (by rw [hm];exact K3.out),if_pos (by rw [hm];exact ⟨K0.out,KM.out⟩)]
         rfl
        have HE:=Lib.hid hE
        clear hE
        go_wp2
        go_ret3
        rw [HE.out]
        exact ⟨rfl,hb⟩
      ·have p2:((m:Int)==0)=false:=by simp;omega
       have KN:=Lib.hid (show ¬ (0<i∧m=0) from fun h=>km h.2)
       by_cases k9:i=9
       ·have q1:((i:Int)==9)=true:=by simp;omega
        obtain ⟨q2,q2'⟩:=hms k9
        clear k9 km k0 hms
        have hE:getN b=(u,i+1,0):=by
         obtain ⟨hg,hM,hm⟩:=HG2.out
         rw [hg,getF,if_neg (by rw [hm];exact K1.out),if_pos (by rw [hm];exact K3.out),if_neg (by rw [hm];exact fun h=>KN.out h),comb,if_pos rfl,hm,←HU.out,←HT.out,hM,Nat.mul_comm]
        have HE:=Lib.hid hE
        clear hE
        go_wp2
        go_ret3
        rw [HE.out]
        exact ⟨rfl,hb⟩
       ·have q1:((i:Int)==9)=false:=by simp;omega
        clear k9 km k0 hms
        have hE:getN b=(u,i+1,0):=by
         obtain ⟨hg,hM,hm⟩:=HG2.out
         rw [hg,getF,if_neg (by rw [hm];exact K1.out),if_pos (by rw [hm];exact K3.out),if_neg (by rw [hm];exact fun h=>KN.out h),comb,if_pos rfl,hm,←HU.out,←HT.out,hM,Nat.mul_comm]
        have HE:=Lib.hid hE
        clear hE
        go_wp2
        go_ret3
        rw [HE.out]
        exact ⟨rfl,hb⟩
     ·have p1:decide ((0:Int)<(i:Nat))=false:=by simp;omega
      have p1':decide (0<i)=false:=by simpa using k0
      have q1:((i:Int)==9)=false:=by simp;omega
      have KN:=Lib.hid (show ¬ (0<i∧m=0) from fun h=>k0 h.1)
      clear k0 hms
      have hE:getN b=(u,i+1,0):=by
       obtain ⟨hg,hM,hm⟩:=HG2.out
       rw [hg,getF,if_neg (by rw [hm];exact K1.out),if_pos (by rw [hm];exact K3.out),if_neg (by rw [hm];exact fun h=>KN.out h),comb,if_pos rfl,hm,←HU.out,←HT.out,hM,Nat.mul_comm]
      have HE:=Lib.hid hE
      clear hE
      go_wp2
      go_ret3
      rw [HE.out]
      exact ⟨rfl,hb⟩
    ·have hi8:i≤8:=by
      rcases Nat.lt_or_ge i 9 with h | h
      ·omega
      ·exact absurd ⟨by omega,by omega⟩ k1
     have hM8:M≤72057594037927936:=by rw [HG2.out.2.1];exact Nat.le_trans (Nat.pow_le_pow_right (by omega) hi8) (by decide)
     have h1:(m-128)*M≤127*M:=Nat.mul_le_mul_right _ (by omega)
     have hmod:(m:Int) % 128*(M:Int)=(((m-128)*M:Nat):Int):=by rw [show (m:Int) % 128=((m-128:Nat):Int) by omega];push_cast;rfl
     obtain ⟨t,ht⟩:∃ t,(m-128)*M=t:=⟨_,rfl⟩
     obtain ⟨u,hu⟩:∃ u,s+t=u:=⟨_,rfl⟩
     rw [ht] at h1 hmod
     have e1:IntKind.u64.wrap ((m:Int) % 128*(M:Int))=(t:Nat):=by rw [hmod,IntKind.wrap_u64];omega
     have e2:IntKind.u64.wrap ((s:Int)+(t:Nat))=(u:Nat):=by rw [IntKind.wrap_u64];omega
     obtain ⟨M2,hM2⟩:∃ M2,M*128=M2:=⟨_,rfl⟩
     have e3:IntKind.u64.wrap ((M:Int)*128)=(M2:Nat):=by rw [IntKind.wrap_u64];omega
     have hE:GetRel w b (.int .u64 u) (.int .u64 M2) (.int .i64 ((i:Int)+1)) wo:=by
      obtain ⟨hg,hM,hm⟩:=HG2.out
      refine ⟨hb,i+1,u,M2,by omega,rfl,rfl,by rw [←hM2,hM,Nat.pow_succ],by go_num,?_,?_⟩
      ·rw [Nat.pow_succ,←hM];omega
      ·rw [hg,comb_step (by rw [hm];exact k1) (by rw [hm];exact k3),hm,←hM,Nat.mul_comm,ht,hu,show 10-(i+1)=9-i by omega]
     have HE:=Lib.hid hE
     have q6:decide ((m:Nat)<(128:Int))=false:=by simp;omega
     have q7:decide (m<128)=false:=by simpa using k3
     have q1:((i:Int)==9)=false:=by simp;omega
     clear hmod h1 hM8 ht hu hM2 k1 k3 hE HG2
     go_wp2
     go_roundw
     case rel=>exact HE.out
     case measure=>simp [intOf];omega
  ·have d1:decide (b.length≤i)=true:=by simp;omega
   have hE:getN b=(0,0,10):=by
    rw [HG.out.1,show 10-i=(9-i)+1 by omega,List.drop_of_length_le (by omega)]
    rfl
   have HE:=Lib.hid hE
   clear hE HG
   go_wp2
   go_ret3
   rw [HE.out]
   exact ⟨rfl,hb⟩
end
section
open Go.RowKit
theorem reads_sub {B:Nat} {w:World} {a:Addr} {b:List UInt8} {k n:Nat} (h:Reads w B 1 (some a) b.length (bl b)) (hk:k+n≤b.length):Reads w B 1 (some (a.add k)) n (bl ((b.drop k).take n)):=by
 refine ⟨by rw [bl_len];simp;omega,fun h0=>?_⟩
 obtain ⟨a',e,h1,h2⟩:=h.2 (by omega)
 cases e
 refine ⟨_,rfl,by unfold Addr.add;split <;> exact h1,fun j x hj=>?_⟩
 rw [Go.Deep.add_add]
 refine h2 (k+j) x ?_
 unfold bl at hj ⊢
 rw [List.getElem?_map] at hj ⊢
 rw [List.getElem?_take] at hj
 split at hj
 ·rw [List.getElem?_drop] at hj;exact hj
 ·simp at hj
set_option maxHeartbeats 4000000 in
set_option maxRecDepth 100000 in
theorem RNGetB_any {B:Nat} (A:Option Addr) (cc:Nat) (b:List UInt8) (w:World) (hB:B≤w.heap.size) (hr:Reads w B 1 A b.length (bl b)) (hl:b.length≤900000) (hcap:b.length≤cc) :
 Calls Tryz.prog 67 #[.slice A b.length cc] w fun e w'=>∃ v,e=.returned (.tuple #[v,.int .i64 (getB b).2.1,.int .i64 (getB b).2.2])∧w'.ownsRow w.heap.size 5 1 v (getB b).1.length (bl (getB b).1)∧Below w.heap.size w w':=by
 have hG:=RNGet_any A cc b w hB hr (by omega)
 have hpg:(getN b).2.2=0→(getN b).2.1≤b.length:=fun h=>(putN_getN h).2.1
 have hgb:getB b=if (getN b).2.2≠0 then ([],0,(getN b).2.2) else if b.length-(getN b).2.1<(getN b).1 then ([],0,10) else ((b.drop (getN b).2.1).take (getN b).1,(getN b).2.1+(getN b).1,0):=rfl
 have hk0':(getN b).2.2=0→0<(getN b).2.1:=fun h=>(putN_getN h).2.2.1
 obtain ⟨⟨n,k,e⟩,hg⟩:∃ g,getN b=g:=⟨_,rfl⟩
 rw [hg] at hG hpg hgb hk0'
 dsimp only at hG hpg hgb hk0'
 clear hg
 by_cases he:e=0
 ·subst he
  have hk:=hpg rfl
  clear hpg
  rw [if_neg (by simp)] at hgb
  have e1:IntKind.u64.wrap ((b.length:Int)-(k:Int))=((b.length-k:Nat):Int):=by rw [IntKind.wrap_u64];omega
  by_cases hn:b.length-k<n
  ·rw [if_pos hn] at hgb
   have d1:decide (((b.length-k:Nat):Int)<(n:Int))=true:=by simp;omega
   have HGB:=Lib.hid hgb
   clear hgb
   go_enter Tryz.func67,Tryz.ntmps67
   go_wp2_with (go_at_call 69;refine hG.mono ?_;rintro e w1 ⟨rfl,hb⟩)
   go_ret3
   rw [HGB.out]
   exact ⟨_,rfl,World.ownsRow_nil _ _ _ _,hb⟩
  ·rw [if_neg hn] at hgb
   have d1:decide (((b.length-k:Nat):Int)<(n:Int))=false:=by simp;omega
   have d1':decide (b.length-k<n)=false:=by simpa using hn
   have HGB:=Lib.hid hgb
   clear hgb
   have hk0:0<k:=hk0' rfl
   obtain ⟨a,rfl⟩:∃ a,A=some a:=by
    obtain ⟨a,e,_⟩:=hr.2 (by omega)
    exact ⟨a,e⟩
   have hsub:Reads w B 1 (some (a.add k)) (k+n-k) (bl ((b.drop k).take n)):=by rw [Nat.add_sub_cancel_left];exact reads_sub (k:=k) (n:=n) hr (by omega)
   have e2:IntKind.i64.wrap (n:Int)=(n:Nat):=by rw [IntKind.wrap_i64];omega
   have hn9:n≤900000:=by omega
   have hkn:k+n≤cc:=by omega
   have hlen:((b.drop k).take n).length=n:=by rw [List.length_take,List.length_drop];omega
   have HH:=Lib.hid (And.intro hlen hn)
   clear hn hlen hk0'
   by_cases hkc:k<cc
   ·go_enter Tryz.func67,Tryz.ntmps67
    go_wp2_with (first
     | (go_at_call 69;refine hG.mono ?_;rintro e w1 ⟨rfl,hb⟩)
     | (at_builtin;refine list_push TBy rfl rfl w.heap.size rfl (own_emptyH _ _ _ rfl hb.size) rfl (hsub.below ((hb.alloc hb.size _).mono hB)) (bl_one _) (by omega) (by have:=hb.size;simp;omega) (show 0+(k+n-k)=n by omega) (List.nil_append _) ?_;intro A2 c2 w2 ho2 hg2 hl2))
    all_goals
     go_ret3
     rw [HGB.out]
     dsimp only
     rw [HH.out.1]
     exact ⟨_,rfl,ho2,(hb.alloc hb.size _).grown hg2 (by have:=hb.size;simp;omega) (fun k e=>by cases e;exact hb.size)⟩
   ·have hkc':k=cc:=by omega
    subst hkc'
    have hn0:n=0:=by omega
    subst hn0
    go_enter Tryz.func67,Tryz.ntmps67
    go_wp2_with (first
     | (go_at_call 69;refine hG.mono ?_;rintro e w1 ⟨rfl,hb⟩)
     | (at_builtin;refine list_push TBy rfl rfl w.heap.size rfl (own_emptyH _ _ _ rfl hb.size) rfl (m:=0) (news:=[]) (B:=0) ⟨rfl,fun h=>absurd h (by omega)⟩ (fun u hu=>by cases hu) (by omega) (by have:=hb.size;simp;omega) (Nat.zero_add _) (List.nil_append _) ?_;intro A2 c2 w2 ho2 hg2 hl2))
    all_goals
     go_ret3
     rw [HGB.out]
     exact ⟨_,rfl,ho2,(hb.alloc hb.size _).grown hg2 (by have:=hb.size;simp;omega) (fun k e=>by cases e;exact hb.size)⟩
 ·rw [if_pos he] at hgb
  have d1:(e != 0)=true:=by simpa using he
  have HGB:=Lib.hid hgb
  clear hgb hpg
  go_enter Tryz.func67,Tryz.ntmps67
  go_wp2_with (go_at_call 69;refine hG.mono ?_;rintro e w1 ⟨rfl,hb⟩)
  go_ret3
  rw [HGB.out]
  exact ⟨_,rfl,World.ownsRow_nil _ _ _ _,hb⟩
end
section
open Go.RowKit
theorem list_push8 {P:Program} {w:World} {t e:TypeId} {size bytes:Nat} (T:SlT P t e size bytes) {ops:Array Oper} {rest:List Oper} {o:Oper} {a:Act} {Q:Exit→Act→World→Prop} (hgd:o.guard=none) {s x:Operand}
 (ho:o.op=.call {callee:=.builtin .append,args:=#[s,x],argTypes:=#[t,t]})
 (base:Nat) {As:Option Addr} {n cs:Nat} {xs:List Value} (hs:a.eval s=.slice As n cs) (hown:w.ownsRow base e size (.slice As n cs) n xs)
 {B:Nat} {A:Option Addr} {m c:Nat} {news:List Value} (hx:a.eval x=.slice A m c) (hr:Reads w B size A m news) (h1:∀ u∈news,u.oneCell'=true)
 (hn:n+m≤100000000) (hbase:base≤w.heap.size) {k:Nat} (hk:n+m=k) {ys:List Value} (hy:xs++news=ys)
 (h:∀ A' c' w',w'.ownsRow base e size (.slice A' k c') k ys→w.grownBy w' (.slice As n cs:Value).ownBlock→((.slice A' k c':Value).ownBlock=(.slice As n cs:Value).ownBlock∨(.slice A' k c':Value).ownBlock=some w.heap.size)→wpList P ops Q rest (a.put o.dst (.slice A' k c')) w'):wpList P ops Q (o::rest) a w:=by
 obtain ⟨i,z,i1,i2,i3,i4,i5⟩:=T.info
 subst hk hy
 refine wpList_append_any w hgd s x t ho base e i z size bytes T.under i1 i2 i3 i4 i5 T.pos _ n xs hs hown B A m c news hx hr h1 (by simp only [maxLen];omega) (Nat.le_trans (Nat.mul_le_mul hn T.few) (by omega)) hbase (fun v' w' a1 a2 a3=>?_)
 obtain ⟨A',c',rfl⟩:=own_formN a1
 exact h A' c' w' a1 a2 a3
set_option maxHeartbeats 2000000 in
set_option maxRecDepth 100000 in
theorem SGrow_nil (n:Nat) (hn:n≤4000000) (w:World) :
 Calls Tryz.prog 97 #[.slice none 0 0,.int .i64 n] w fun e w'=>∃ v,e=.returned v∧w'.ownsRow w.heap.size 5 1 v 0 []∧Below w.heap.size w w':=by
 have h1:¬ ((n:Int)<0):=by omega
 by_cases h0:n=0
 ·subst h0
  go_enter Tryz.func97,Tryz.ntmps97
  go_wp2
  go_ret
  exact ⟨_,rfl,World.ownsRow_nil _ _ _ _,Below.refl _ _⟩
 ·obtain ⟨i,z,i1,i2,i3,i4,i5⟩:=TBy.info
  have hb:i.bytes=1:=i4
  have hrz:∀ ty,(Builtin.append_ #[36,3] ty #[.slice none 0 0,.int .i64 (n:Int)]).run Tryz.prog w =
   .ok (.slice (some ⟨w.heap.size,0,none⟩) n (grownCap w n 0 5)) (w.drew.alloc (.cells (([]:List Value).toArray++Builtin.zeroCells z.cells n++Builtin.zeroCells z.cells (grownCap w n 0 5-n)) 5)):=fun ty=>by
   have h:=Lib.run_append_grow_zeros w 36 3 ty 5 i z .i64 .i64 Tryz.underlying36 Tryz.underlying3 i1 i2 none 0 0 [] (run_firstCells_none w.drew i.size 0 0 0) n (by omega) (by rw [i3];omega) (by omega) (by omega)
    (by rw [hb];omega) (growslice_fits (by omega) (by rw [hb];omega))
   rw [Nat.zero_add] at h
   exact h
  have hGn:n≤grownCap w n 0 5:=grownCap_ge w _ _ _
  obtain ⟨G,hG⟩:∃ G,G=grownCap w n 0 5:=⟨_,rfl⟩
  rw [←hG] at hrz hGn
  have hG63:G≤9223372036854775807:=by
   have:=grownCap_le_maxLen w n 0 5 (by unfold maxLen;omega)
   rw [←hG] at this
   unfold maxLen at this
   omega
  obtain ⟨zc,hze⟩:∃ zc,z.cells=zc:=⟨_,rfl⟩
  have hzc:zc.size=1:=by rw [←hze];exact i5
  rw [hze] at hrz
  clear hG i1 i2 i3 i4 i5 hb hze
  go_enter Tryz.func97,Tryz.ntmps97
  go_wp2_with (at_builtin;refine Lib.wpList_append_run _ rfl _ _ _ _ rfl _ _ rfl rfl _ _ (hrz _) ?_)
  all_goals
   go_ret
   refine ⟨_,rfl,⟨rfl,.inr ⟨w.heap.size,G,_,rfl,Nat.le_refl _,heap_alloc_new w.drew _,?_,?_,?_,?_⟩⟩,((Below.refl _ w).drew).alloc (Nat.le_refl _) _⟩
   all_goals first
    | omega
    | (simp only [maxLen];omega)
    | (simp [Builtin.zeroCells,hzc];done)
    | (simp [Builtin.zeroCells,hzc];omega)
end
section
open Go.RowKit
structure Pt where
 A:Option Addr
 c:Nat
 b:List UInt8
def Pt.val (p:Pt):Value:=.slice p.A p.b.length p.c
def cat (ps:List Pt):List UInt8:=ps.flatMap (·.b)
theorem cat_take_succ {ps:List Pt} {k:Nat} {p:Pt} (h:ps[k]?=some p):cat (ps.take (k+1))=cat (ps.take k)++p.b:=by
 unfold cat
 rw [List.take_add_one,h]
 simp
theorem cat_take_le (ps:List Pt) (k:Nat):(cat (ps.take k)).length≤(cat ps).length:=by
 have h:cat ps=cat (ps.take k)++cat (ps.drop k):=by
  unfold cat
  rw [←List.flatMap_append,List.take_append_drop]
 rw [h,List.length_append]
 omega
set_option maxHeartbeats 2000000 in
set_option maxRecDepth 100000 in
theorem Concat_any {B:Nat} (g cap:Nat) (ps:List Pt) (w:World) (hB:B≤w.heap.size) (hg:∀ k p,ps[k]?=some p→w.cell? ⟨g,k,none⟩=some p.val) (hr:∀ p∈ps,Reads w B 1 p.A p.b.length (bl p.b)) (hs:(cat ps).length≤3000000) (hl:ps.length≤100) :
 Calls Tryz.prog 57 #[.slice (some ⟨g,0,none⟩) ps.length cap] w fun e w'=>∃ v,e=.returned v∧w'.ownsRow w.heap.size 5 1 v (cat ps).length (bl (cat ps))∧Below w.heap.size w w':=by
 have HP:=Lib.hid (And.intro hg hr)
 clear hg hr
 go_enter Tryz.func57,Tryz.ntmps57
 go_wp2
 go_loopw [3,5,11] (fun n _ i wr=>wr=w∧∃ k:Nat,k≤ps.length∧n=.int .i64 ((cat (ps.take k)).length:Nat)∧i=.int .i64 k) (fun _ _ i _=>ps.length-(intOf i).toNat)
 case atStart=>exact ⟨rfl,0,Nat.zero_le _,rfl,rfl⟩
 case round =>
  obtain ⟨rfl,k,hk,rfl,rfl⟩:=hrel
  obtain ⟨w0,rfl⟩:∃ w0,w0=wr:=⟨wr,rfl⟩
  have hle:=cat_take_le ps k
  by_cases hlt:k<ps.length
  ·have d1:decide (k<ps.length)=true:=by simpa using hlt
   obtain ⟨p,hp⟩:∃ p,ps[k]?=some p:=⟨_,List.getElem?_eq_getElem hlt⟩
   have hc:=HP.out.1 k p hp
   have hle2:=cat_take_le ps (k+1)
   have hsc:=cat_take_succ hp
   have i0:(0:Int)≤(k:Int):=by omega
   have i1:(k:Int)<(ps.length:Int):=by omega
   rw [hsc,List.length_append] at hle2
   obtain ⟨m,hm⟩:∃ m,(cat (ps.take k)).length=m:=⟨_,rfl⟩
   rw [hm] at hle hle2 ⊢
   have HS:=Lib.hid (And.intro hsc hm)
   clear hsc hm
   unfold Pt.val at hc
   have hz:¬ ((m:Int)+(p.b.length:Int)<0):=by omega
   go_wp2
   go_roundw
   case rel=>exact ⟨trivial,k+1,by omega,by rw [HS.out.1,List.length_append,HS.out.2];go_num,by go_num⟩
   case measure=>simp [intOf];omega
  ·have d1:decide (k<ps.length)=false:=by simpa using hlt
   obtain rfl:k=ps.length:=by omega
   rw [List.take_length] at hle ⊢
   have hG:=SGrow_nil (cat ps).length (by omega) w0
   go_wp2_with (go_at_call 97;refine hG.mono ?_;rintro e w1 ⟨v,rfl,ho,hb⟩;obtain ⟨A1,c1,rfl⟩:=own_formS ho)
   clear hG
   go_loopw [6,8,27] (fun out _ i w2=>Below w0.heap.size w0 w2∧∃ (k:Nat) (A:Option Addr) (c:Nat),k≤ps.length∧out=.slice A (cat (ps.take k)).length c∧w2.ownsRow w0.heap.size 5 1 out (cat (ps.take k)).length (bl (cat (ps.take k)))∧i=.int .i64 k) (fun _ _ i _=>ps.length-(intOf i).toNat)
   case atStart=>exact ⟨hb,0,A1,c1,Nat.zero_le _,rfl,ho,rfl⟩
   case round =>
    clear ho hb
    obtain ⟨hb,k,A,c,hk,rfl,ho,rfl⟩:=hrel
    have hle:=cat_take_le ps k
    obtain ⟨wo,rfl⟩:∃ wo,wo=wr:=⟨wr,rfl⟩
    by_cases hlt:k<ps.length
    ·have d1:decide (k<ps.length)=true:=by simpa using hlt
     obtain ⟨p,hp⟩:∃ p,ps[k]?=some p:=⟨_,List.getElem?_eq_getElem hlt⟩
     have hc:=HP.out.1 k p hp
     have hgl:g<w0.heap.size:=World.block_lt_of_cell? w0 _ hc
     have hc2:wo.cell? ⟨g,k,none⟩=some p.val:=(hb.cell (p:=⟨g,k,none⟩) hgl).trans hc
     have hrd:=(HP.out.2 p (List.mem_of_getElem? hp)).below (hb.mono hB)
     have hle2:=cat_take_le ps (k+1)
     have hsc:=cat_take_succ hp
     have i0:(0:Int)≤(k:Int):=by omega
     have i1:(k:Int)<(ps.length:Int):=by omega
     rw [hsc,List.length_append] at hle2
     have HS:=Lib.hid hsc
     clear hsc hc hp
     unfold Pt.val at hc2
     go_wp2_with (at_builtin;refine list_push8 TBy rfl rfl w0.heap.size rfl ho rfl hrd (bl_one _) (by omega) hb.size rfl (ys:=bl (cat (ps.take k)++p.b)) (by rw [bl_append]) ?_;intro A2 c2 w2 ho2 hg2 hl2)
     all_goals
      go_roundw
      case rel=>exact ⟨hb.grown hg2 hb.size (fun k e=>(ho.lt k e).1),k+1,A2,c2,by omega,by rw [HS.out,List.length_append],by rw [HS.out,List.length_append];exact ho2,by go_num⟩
      case measure=>simp [intOf];omega
    ·have d1:decide (k<ps.length)=false:=by simpa using hlt
     obtain rfl:k=ps.length:=by omega
     rw [List.take_length] at ho ⊢
     go_wp2
     go_ret
     exact ⟨_,rfl,ho,hb⟩
end
section
open Go.RowKit
section
variable {X X':Nat→Prop} {w w' w1 w2 w3:World} {rb:Nat} {vd vc vf vw:Value} {V:Nat→Value} {L:Nat→List (ByteArray × Value)} {W:List (PW × Value)} {nx:Int} {p:DP}
theorem RefN.pushRow (h:RefN X w rb vd vc vf vw V L W nx p) (hX:∀ k,X k→X' k) {v' v:Value} {l:List (ByteArray × Value)} {f:List ByteArray} (hf:f=l.map (·.1)) (hl:∀ y∈l,SecW w y.2 y.1) (hg:w.grownBy w3 vf.ownBlock)
 (hr:RowX X' w3 111 2 v' (p.files.length+1) (flcells V p.files.length++[.int .i64 p.files.length,v])) (hrow:RowX X' w 36 1 v l.length (l.map (·.2))) (ho:∀ k,v.ownBlock=some k→¬ X k) :
 RefN X' (w3.setCell ⟨rb,3,none⟩ v') rb vd vc v' vw (updV V p.files.length v) (fun i=>if i=p.files.length then l else L i) W nx {p with files:=p.files++[f]}:=by
 have hs:Same (RTx 111) X w w3:=same_grown h.fl hg (fun e=>e.2 rfl)
 have hk:=kb_grown h.fl hg (by decide)
 have hb3:=hs rb _ _ ⟨rt_disk,by decide⟩ h.inX h.blk
 have hk2:=hk.trans (kb_set (o:=3) (u:=v') hb3 (by decide))
 have hfile:∀ i,i<p.files.length→({p with files:=p.files++[f]}:DP).file i=p.file i:=fun i hi=>by
  show (p.files++[f]).getD i []=p.files.getD i []
  rw [List.getD_eq_getElem?_getD,List.getD_eq_getElem?_getD,List.getElem?_append_left hi]
 have hlt:∀ i,i<(p.files++[f]).length→i<p.files.length∨i=p.files.length:=fun i hi=>by simp at hi;omega
 refine ⟨by simpa using (show Blk w3 rb 72 _ from hb3).set_ 3 v',hX _ h.inX,(h.dir.same hs ⟨rt_en,by decide⟩ hX).farset hb3 (by decide),(h.chs.same hs ⟨rt_ch,by decide⟩ hX).farset hb3 (by decide),?_,(h.wrs.same hs ⟨rt_wr,by decide⟩ hX).farset hb3 (by decide),h.wp,fun y hy=>(h.ws y hy).keep hk2,fun i hi=>?_,fun i hi y hy=>?_,fun i hi=>?_,fun i j k hi hj=>?_⟩
 ·have e:flcells (updV V p.files.length v) (p.files.length+1)=flcells V p.files.length++[.int .i64 p.files.length,v]:=by
   rw [fl_succ,fl_congr (V:=updV V p.files.length v) (V':=V) (fun j hj=>by unfold updV;rw [if_neg (by omega)])]
   simp [flc,updV]
  show RowX X' _ 111 2 v' (p.files++[f]).length (flcells _ (p.files++[f]).length)
  rw [List.length_append,List.length_singleton,e]
  exact hr.farset hb3 (by decide)
 ·rcases hlt i hi with h1 | h1
  ·show _=(if i=p.files.length then l else L i).map (·.1)
   rw [hfile i h1,if_neg (by omega)];exact h.lp i h1
  ·subst h1
   show (p.files++[f]).getD p.files.length []=(if p.files.length=p.files.length then l else L p.files.length).map (·.1)
   simp [List.getD_eq_getElem?_getD,hf]
 ·have hy':y∈(if i=p.files.length then l else L i):=hy
  rcases hlt i hi with h1 | h1
  ·rw [if_neg (by omega)] at hy'
   exact (h.ls i h1 y hy').keep hk2
  ·rw [if_pos h1] at hy';exact (hl y hy').keep hk2
 ·show RowX X' _ 36 1 (updV V p.files.length v i) (if i=p.files.length then l else L i).length ((if i=p.files.length then l else L i).map (·.2))
  unfold updV
  rcases hlt i hi with h1 | h1
  ·rw [if_neg (by omega),if_neg (by omega)]
   exact ((h.row i h1).same hs ⟨rt_ss,by decide⟩ hX).farset hb3 (by decide)
  ·rw [if_pos h1,if_pos h1]
   exact (hrow.keep (fun k cs _ hk' h3=>(hg.block k (Array.getElem?_eq_some_iff.1 h3).1 (fun e2=>ho k hk' (h.fl.2 k e2.symm))).trans h3) (fun _ h=>h)).farset hb3 (by decide)
 ·show (updV V p.files.length v i).ownBlock=some k→(updV V p.files.length v j).ownBlock=some k→i=j
  unfold updV
  rcases hlt i hi with h1 | h1 <;> rcases hlt j hj with h2 | h2
  ·rw [if_neg (by omega),if_neg (by omega)];exact h.inj i j k h1 h2
  ·rw [if_neg (by omega),if_pos h2];intro e1 e2;exact absurd ((h.row i h1).2 k e1) (ho k e2)
  ·rw [if_pos h1,if_neg (by omega)];intro e1 e2;exact absurd ((h.row j h2).2 k e2) (ho k e1)
  ·intros;omega
end
end
end Go.Proofs.YtekajggjoeimoaaGreatDoor
