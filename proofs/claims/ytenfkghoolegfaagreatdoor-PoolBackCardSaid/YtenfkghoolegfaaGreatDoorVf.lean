/- A part of the proof of PoolBack. No condition of its own. -/
import Derived.Test.YtenfkghoolegfaaGreatDoorVz
import Derived.Test.YtenfkghoolegfaaGreatDoorVe
import Derived.Lib.Bytealg
import Derived.Laws.BytesArg
import Derived.Laws.EntriesVeiled
set_option maxHeartbeats 8000000
set_option maxRecDepth 1000000
set_option linter.unusedVariables false
namespace Go.Proofs.YtenfkghoolegfaaGreatDoor
section
open Go.RowKit
namespace Vp
open Ev
def tk (k:Nat):Value:=.chan (some k)
def cvA (s d:TypeId) (x:Value):Option Value:=match x with
 | .chan (some 0)=>cond (Nat.beq s 34 && Nat.beq d 5) (some (tk 1)) none
 | .chan (some 4)=>cond (Nat.beq s 34 && Nat.beq d 5) (some (tk 5)) none
 | _=>none
def fA:List Fact:=[⟨.geq,tk 0,.int .u64 128,.bool false⟩]
def fB:List Fact:=[⟨.geq,tk 0,.int .u64 128,.bool true⟩,⟨.and,tk 1,.int .u8 127,tk 2⟩,⟨.or,tk 2,.int .u8 128,tk 3⟩,⟨.shr,tk 0,.int .u64 7,tk 4⟩,⟨.geq,tk 4,.int .u64 128,.bool false⟩]
noncomputable def Cv (fs:List Fact):Ctx:=⟨Tryz.prog,fun f=>fnT.get f,fun t=>(tyT.get t).map (·.1),fun t=>(tyT.get t).map (·.2.desc),fun _=>none,fun _=>none,methT,fun op _ x y=>binOf fs op x y,fun t x=>lenOf [] t x,cvA,fun _=>false,fun _=>none⟩
def tokEq:List Value->List Nat->Bool
 | [],[]=>true
 | .chan (some k)::l,t::ts=>Nat.beq k t && tokEq l ts
 | _,_=>false
noncomputable def isToks (ts:List Nat) (r:Option (Value × AS)):Bool:=match r with
 | some (.slice (some a) n _,s)=>(match readN s a n with
  | some l=>tokEq l ts
  | none=>false)
 | _=>false
theorem runA:isToks [1] ((ev (Cv fA) 1000).f 203 [tk 0] ⟨0,.leaf⟩)=true:=by kernel_rfl
theorem runB:isToks [3,5] ((ev (Cv fB) 1000).f 203 [tk 0] ⟨0,.leaf⟩)=true:=by kernel_rfl
def om (n:Nat):Nat->Value
 | 0=>.int .u64 (n:Nat)
 | 1=>.int .u8 (n % 256:Nat)
 | 2=>.int .u8 (n % 128:Nat)
 | 3=>.int .u8 (n % 128+128:Nat)
 | 4=>.int .u64 (n / 128:Nat)
 | 5=>.int .u8 (n / 128:Nat)
 | _=>.nilIface
theorem land_127 (n:Nat):Nat.land (n % 256) 127=n % 128:=by
 have:=Nat.and_two_pow_sub_one_eq_mod (n % 256) 7;show n % 256 &&& 127=_;rw [show (127:Nat)=2 ^ 7-1 from rfl,this];omega
theorem lor_128 (n:Nat):Nat.lor (n % 128) 128=n % 128+128:=by
 have:128+n % 128=128 ||| n % 128:=by simpa using Nat.two_pow_add_eq_or_of_lt (i:=7) (b:=n % 128) (by omega) 1
 show n % 128 ||| 128=_
 rw [Nat.or_comm];omega
theorem fA_ok {n:Nat} (h:n<128):∀ f∈fA,f.ok (om n) Tryz.prog:=by
 intro f hf;simp only [fA,List.mem_cons,List.not_mem_nil,or_false] at hf;subst hf;exact Fact.geq (ω:=om n) (p:=n) (q:=128) rfl rfl rfl rfl (dF (by omega))
theorem fB_ok {n:Nat} (h:128<=n) (h2:n<16384):∀ f∈fB,f.ok (om n) Tryz.prog:=by
 intro f hf;simp only [fB,List.mem_cons,List.not_mem_nil,or_false] at hf
 rcases hf with rfl | rfl | rfl | rfl | rfl
 ·exact Fact.geq (ω:=om n) (p:=n) (q:=128) rfl rfl rfl rfl (dT (by omega))
 ·refine Fact.int (ω:=om n) (k:=.u8) (p:=(n % 256:Nat)) (q:=127) rfl rfl rfl rfl rfl rfl (fun t=>?_);refine (opF_sound .and .u8 (n % 256) 127 (.int .u8 (.ofNat (Nat.land (n % 256) 127))) t ?_).trans ?_
  ·show andF .u8 (n % 256) 127=_;unfold andF smallK;rw [show Nat.blt (n % 256) (topK .u8)=true by rw [Nat.blt_eq];show n % 256<256;omega];rfl
  ·rw [land_127];rfl
 ·refine Fact.int (ω:=om n) (k:=.u8) (p:=(n % 128:Nat)) (q:=128) rfl rfl rfl rfl rfl rfl (fun t=>?_);refine (opF_sound .or .u8 (n % 128) 128 (.int .u8 (.ofNat (Nat.lor (n % 128) 128))) t ?_).trans ?_
  ·show orF .u8 (n % 128) 128=_;unfold orF smallK;rw [show Nat.blt (n % 128) (topK .u8)=true by rw [Nat.blt_eq];show n % 128<256;omega];rfl
  ·rw [lor_128];rfl
 ·refine Fact.int (ω:=om n) (k:=.u64) (p:=n) (q:=7) rfl rfl rfl rfl rfl rfl (fun t=>?_);exact shF_sound .shr .u64 .u64 n 7 _ t rfl
 ·exact Fact.geq (ω:=om n) (p:=(n / 128:Nat)) (q:=128) rfl rfl rfl rfl (dF (by omega))
theorem tokEq_ok {ω:Nat->Value} {m:M ω}:∀ (l:List Value) (ts:List Nat) (l':List Value),tokEq l ts=true->LRel m l l'->l'=ts.map ω
 | [],[],l',_,h=>by
  have:=h.1
  cases l' with
  | nil=>rfl
  | cons _ _=>simp at this
 | v::l,[],l',h,_=>by cases v <;> simp [tokEq] at h
 | [],_::_,_,h,_=>by simp [tokEq] at h
 | v::l,t::ts,l',h,hr=>by
  cases l' with
  | nil=>have:=hr.1;simp at this
  | cons x l' =>
   have key:∃ k,v=.chan (some k)/\Nat.beq k t=true/\tokEq l ts=true:=by
    unfold tokEq at h
    split at h
    ·rename_i h1 _;cases h1
    ·rename_i k l2 t2 ts2 h1 h2
     cases h1;cases h2
     rw [Bool.and_eq_true] at h;exact ⟨k,rfl,h.1,h.2⟩
    ·cases h
   obtain ⟨k,rfl,h1,h2⟩:=key;obtain ⟨r1,r2⟩:=hr.tail;rw [tok_inv r1,bE h1,tokEq_ok l ts l' h2 r2];rfl
theorem cvA_ok {n:Nat} (hn:n<16384) (h128:n<128\/128<=n):∀ src dst x v,cvA src dst x=some v->∀ (m:M (om n)) (x':Value) (w:World),VRel m x x'->∃ v',(convert src dst x').run Tryz.prog w=.ok v' w/\VRel m v v':=by
 intro src dst x v h m x' w hx
 have hk:Tryz.prog.intKind 5=.u8:=by kernel_rfl
 unfold cvA at h
 split at h
 ·cases hc:(Nat.beq src 34 && Nat.beq dst 5) with
  | false=>rw [hc] at h;cases h
  | true =>
   rw [hc] at h
   cases h
   rw [Bool.and_eq_true] at hc;obtain rfl:=bE hc.1;obtain rfl:=bE hc.2;obtain rfl:=tok_inv hx;have hr:=run_convert_int (P:=Tryz.prog) w 34 5 .u64 n (by kernel_rfl) (by kernel_rfl);rw [hk] at hr
   have e:IntKind.u8.wrap (n:Int)=((n % 256:Nat):Int):=by rw [IntKind.wrap_u8];omega
   rw [e] at hr;exact ⟨_,hr,VRel.tok (ω:=om n) 1 rfl⟩
 ·cases hc:(Nat.beq src 34 && Nat.beq dst 5) with
  | false=>rw [hc] at h;cases h
  | true =>
   rw [hc] at h
   cases h
   rw [Bool.and_eq_true] at hc;obtain rfl:=bE hc.1;obtain rfl:=bE hc.2;obtain rfl:=tok_inv hx;have hr:=run_convert_int (P:=Tryz.prog) w 34 5 .u64 (n / 128:Nat) (by kernel_rfl) (by kernel_rfl);rw [hk] at hr
   have e:IntKind.u8.wrap ((n / 128:Nat):Int)=((n / 128:Nat):Int):=by rw [IntKind.wrap_u8];omega
   rw [e] at hr;exact ⟨_,hr,VRel.tok (ω:=om n) 5 rfl⟩
 ·cases h
theorem cvOK {n:Nat} {fs:List Fact} (hn:n<16384) (hf:∀ f∈fs,f.ok (om n) Tryz.prog):COK (om n) (Cv fs) :=
 ⟨ctxOK_of (tyL:=tyL) (by kernel_rfl) (by kernel_rfl) (by kernel_rfl) (by kernel_rfl) (by kernel_rfl) (by kernel_rfl) (by kernel_rfl) (binOf_ok hf) (lenOf_ok (fun f h=>by cases h)) methT_ok (cvA_ok hn (by omega)),mixed,fun g k h=>by cases h⟩
theorem put_of {n:Nat} {fs:List Fact} {ts:List Nat} (hC:COK (om n) (Cv fs)) (hr:isToks ts ((ev (Cv fs) 1000).f 203 [tk 0] ⟨0,.leaf⟩)=true) (hl:ts≠[]) (w:World) :
 Calls Tryz.prog 203 #[.int .u64 n] w fun e w'=>∃ A c,e=.returned (.slice A ts.length c)/\Reads w' w'.heap.size 1 A ts.length (ts.map (om n))/\Below w.heap.size w w':=by
 unfold isToks at hr
 split at hr
 ·rename_i a k c s h
  split at hr
  ·rename_i l hl2;have key:=((sound hC 1000).2.2.2.1 203 [tk 0] _ _ s h w.heap.size _ _ w #[.int .u64 n] (sr_empty w) (LRel.cons (VRel.tok (ω:=om n) 0 rfl) (LRel.nil _)) ⟨nR _,fun g v h=>(by cases h),fun k h=>(by cases h),fun g cs h=>(by cases h)⟩).2 rfl;refine (callsIn_wide.1 (key.2 0)).mono ?_;rintro e w' ⟨v',rfl,m',_,hs,hv,hb⟩;obtain ⟨p',c',rfl,hor⟩:=slice_inv hv
   rcases hor with ⟨hp,_,_⟩ | ⟨h0,_,_⟩
   ·obtain ⟨l',r1,r2,r3⟩:=readN_sound hs hl2 hp;have e:=tokEq_ok l ts l' hr r1
    have hk:k=ts.length:=by rw [<-r2,e];simp
    subst hk;refine ⟨some p',c',rfl,⟨by simp,fun h0=>⟨p',rfl,?_,fun j x hx=>r3 j x (by rw [e];exact hx)⟩⟩,hb⟩
    cases ts with
    | nil=>exact absurd rfl hl
    | cons t ts =>
     have:=r3 0 (om n t) (by rw [e];rfl);have:=World.block_lt_of_cell? w' _ this;unfold Addr.add at this
     simpa using this
   ·exfalso;subst h0;have:=readN_zero hl2;subst this
    cases ts with
    | nil=>exact hl rfl
    | cons t ts=>simp [tokEq] at hr
  ·cases hr
 ·cases hr
end Vp
theorem VPut_any (n:Nat) (hn:n<16384) (w:World) :
 Calls Tryz.prog 203 #[.int .u64 n] w fun e w'=>∃ A c,e=.returned (.slice A (putN n).length c)/\Reads w' w'.heap.size 1 A (putN n).length (bl (putN n))/\Below w.heap.size w w':=by
 by_cases h:n<128
 ·have e:putN n=[UInt8.ofNat n]:=by unfold putN;rw [putF,if_pos h]
  have hb:bl (putN n)=[1].map (Vp.om n):=by
   rw [e];show [Value.int .u8 (((UInt8.ofNat n).toNat:Nat):Int)]=[Value.int .u8 ((n % 256:Nat):Int)];rw [u8_small (by omega),show n % 256=n by omega]
  have hlen:(putN n).length=[1].length:=by rw [e];rfl
  rw [hb,hlen];exact Vp.put_of (Vp.cvOK hn (Vp.fA_ok h)) Vp.runA (by simp) w
 ·have e:putN n=[UInt8.ofNat (n % 128+128),UInt8.ofNat (n / 128)]:=by unfold putN;rw [putF,if_neg h,putF,if_pos (by omega)]
  have hb:bl (putN n)=[3,5].map (Vp.om n):=by
   rw [e];show [Value.int .u8 (((UInt8.ofNat (n % 128+128)).toNat:Nat):Int),Value.int .u8 (((UInt8.ofNat (n / 128)).toNat:Nat):Int)]=[Value.int .u8 ((n % 128+128:Nat):Int),Value.int .u8 ((n / 128:Nat):Int)];rw [u8_hi,u8_small (by omega)]
  have hlen:(putN n).length=[3,5].length:=by rw [e];rfl
  rw [hb,hlen];exact Vp.put_of (Vp.cvOK hn (Vp.fB_ok (by omega) hn)) Vp.runB (by simp) w
end
section
open Go.RowKit
theorem own_n {w:World} {B e s n m:Nat} {v:Value} {xs:List Value} (h:w.ownsRow B e s v n xs) (hm:n=m):w.ownsRow B e s v m xs:=hm ▸ h
theorem row4 {w:World} {A1 A2 A3 A4:Option Addr} {c1 c2 c3 c4:Nat} {b1 b2 b3 b4:List UInt8} (h1:Reads w w.heap.size 1 A1 b1.length (bl b1)) (h2:Reads w w.heap.size 1 A2 b2.length (bl b2)) (h3:Reads w w.heap.size 1 A3 b3.length (bl b3)) (h4:Reads w w.heap.size 1 A4 b4.length (bl b4)) (hs:(b1++(b2++(b3++b4))).length<=3000000) :
 Calls Tryz.prog 182 #[.slice (some ⟨w.heap.size,0,none⟩) 4 4] (w.alloc (.cells #[.slice A1 b1.length c1,.slice A2 b2.length c2,.slice A3 b3.length c3,.slice A4 b4.length c4] 23)) fun e w'=>∃ v,e=.returned v/\w'.ownsRow w.heap.size 5 1 v (b1++(b2++(b3++b4))).length (bl (b1++(b2++(b3++b4))))/\Below w.heap.size w w':=by
 have hcat:cat [⟨A1,c1,b1⟩,⟨A2,c2,b2⟩,⟨A3,c3,b3⟩,⟨A4,c4,b4⟩]=b1++(b2++(b3++b4)):=by simp [cat]
 have hba:Below w.heap.size w (w.alloc (.cells #[.slice A1 b1.length c1,.slice A2 b2.length c2,.slice A3 b3.length c3,.slice A4 b4.length c4] 23)):=(bR _ w).alloc (nR _) _
 have hC:=Concat_any (B:=w.heap.size) w.heap.size 4 [⟨A1,c1,b1⟩,⟨A2,c2,b2⟩,⟨A3,c3,b3⟩,⟨A4,c4,b4⟩] (w.alloc (.cells #[.slice A1 b1.length c1,.slice A2 b2.length c2,.slice A3 b3.length c3,.slice A4 b4.length c4] 23)) (by simp) (fun k p hk=>by
  have hbk:=Blk.new w 23 #[.slice A1 b1.length c1,.slice A2 b2.length c2,.slice A3 b3.length c3,.slice A4 b4.length c4];rw [hbk.cell]
  rcases k with _ | _ | _ | _ | k
  ·cases hk;rfl
  ·cases hk;rfl
  ·cases hk;rfl
  ·cases hk;rfl
  ·simp at hk) (fun p hp=>by
  simp only [List.mem_cons,List.not_mem_nil,or_false] at hp
  rcases hp with rfl | rfl | rfl | rfl
  ·exact h1.below hba
  ·exact h2.below hba
  ·exact h3.below hba
  ·exact h4.below hba) (by rw [hcat];exact hs) (by simp)
 rw [hcat] at hC;refine hC.mono ?_;rintro e w' ⟨v,rfl,ho,hb⟩;exact ⟨v,rfl,own_le ho (by simp),hba.trans (hb.mono (by simp))⟩
theorem PutLeaf_no (ka:Option Addr) (kl kc:Nat) (size:Int) (va:Option Addr) (vl vc over kid:Nat) (w:World) (h:leafT kl size vl over kid=false) :
 Calls Tryz.prog 170 #[cellV ka kl kc size va vl vc over kid] w fun e w'=>e=.returned (.tuple #[.slice none 0 0,.int .i64 70])/\Below w.heap.size w w':=by
 have hI:=fun W=>isLeaf_any ka kl kc size va vl vc over kid W;rw [h] at hI;unfold cellV at hI ⊢;go_enter Tryz.func170,Tryz.ntmps170
 go_wp2_with (go_at_call 202;refine (hI _).mono ?_;rintro e w2 ⟨rfl,hb2⟩)
 go_ret2;exact ⟨rfl,((bR _ w).alloc (nR _) _).trans (hb2.mono (by simp))⟩
theorem PutLeaf_val {B:Nat} (ka:Option Addr) (kc:Nat) (key:List UInt8) (size:Int) (va:Option Addr) (vc:Nat) (val:List UInt8) (over kid:Nat) (w:World) (hB:B<=w.heap.size) (hr:Reads w B 1 ka key.length (bl key)) (hrv0:Reads w B 1 va val.length (bl val)) (h:leafT key.length size val.length over kid=true) (ho:over<4294967296) (hsz:size<=40) :
 Calls Tryz.prog 170 #[cellV ka key.length kc size va val.length vc over kid] w fun e w'=>∃ v,e=.returned (.tuple #[v,.int .i64 0])/\w'.ownsRow w.heap.size 5 1 v (UInt8.ofNat key.length::(key++(putN size.toNat++val))).length (bl (UInt8.ofNat key.length::(key++(putN size.toNat++val))))/\Below w.heap.size w w':=by
 have hI:=fun W=>isLeaf_any ka key.length kc size va val.length vc over kid W;rw [h] at hI;unfold leafT at h;rw [decide_eq_true_eq] at h;obtain ⟨hk1,hkl,hs0,hs1,hkid,hsv,hso⟩:=h;have HKID:=lH hkid;clear hkid;unfold cellV at hI ⊢;have hC:=cellV_blk w ka key.length kc size va val.length vc over kid
 obtain ⟨kl,KL⟩:∃ x,Hid (key.length=x):=⟨_,lH rfl⟩
 obtain ⟨vl,VL⟩:∃ x,Hid (val.length=x):=⟨_,lH rfl⟩
 rw [KL.out,VL.out] at hI hC;rw [KL.out] at hkl hk1
 have hvl:vl<=40:=by have:=VL.out;by_cases h40:size<=40;(have:=(hsv h40).1;omega);(have:=(hso (by omega)).1;omega)
 have HC:=lH hC
 obtain ⟨sz,hsz0⟩:∃ sz:Nat,size=sz:=⟨size.toNat,by omega⟩
 have hw64:IntKind.u64.wrap size=(size.toNat:Int):=by rw [IntKind.wrap_u64];omega
 have hwo:IntKind.u64.wrap (over:Int)=(over:Int):=by rw [IntKind.wrap_u64];omega
 have hw8:IntKind.u8.wrap (kl:Int)=(kl:Int):=by rw [IntKind.wrap_u8];omega
 have hV:=fun W=>VPut_any size.toNat (by omega) W;have d40:decide (40<size)=false:=dF (by omega);rw [KL.out,VL.out];have HSV:=lH (aI hsv hso);have HSZ:=lH hsz0;have HVL:=lH hvl;have HFF:=lH (aI hw64 (aI hw8 hV));clear hC hsv hso hsz0 hw64 hw8 hV hvl;go_enter Tryz.func170,Tryz.ntmps170
 go_wp2_with (go_at_call 202;refine (hI _).mono ?_;rintro e w2 ⟨rfl,hb2⟩;have hC2a:=HC.out.below hb2 HC.out.lt;have c1:w2.cell? ⟨w.heap.size,1,none⟩=some (.int .i64 size):=hC2a.cell 1;have c2:w2.cell? ⟨w.heap.size,2,none⟩=some (.slice va vl vc):=hC2a.cell 2)
 obtain ⟨hw64,hw8,hV⟩:=HFF.out;have hbw2:Below w.heap.size w w2:=((bR _ w).alloc (nR _) _).trans (hb2.mono (by simp));have hC2:=HC.out.below hb2 HC.out.lt;have hrv:=rM (hrv0.below (hbw2.mono hB)) (nT hB hbw2.size);have HNV:Hid (val.length=vl):=lH VL.out;clear c1 c2 hC2a;have hCx:=hC2;have k0:w2.cell? ⟨w.heap.size,0,none⟩=some (.slice ka kl kc):=hCx.cell 0;have k1:w2.cell? ⟨w.heap.size,1,none⟩=some (.int .i64 size):=hCx.cell 1
 have kS:∀ W,Below w2.heap.size w2 W->(W.cell? ⟨w.heap.size,0,none⟩=some (.slice ka kl kc)/\W.cell? ⟨w.heap.size,1,none⟩=some (.int .i64 size)):=fun W hW=>⟨(hW.cell (p:=⟨w.heap.size,0,none⟩) hCx.lt).trans k0,(hW.cell (p:=⟨w.heap.size,1,none⟩) hCx.lt).trans k1⟩
 have hbd:Below w2.heap.size w2 w2.drew:=(bR _ w2).drew;refine regionE 14 (fun W0=>W0.cell? ⟨w.heap.size,0,none⟩=some (.slice ka kl kc)/\W0.cell? ⟨w.heap.size,1,none⟩=some (.int .i64 size)) (by kernel_rfl) (by kernel_rfl) (by kernel_rfl) (by kernel_rfl) (by kernel_rfl) (kS _ hbd) (fun hHeld hTl=>?_);refine tkT 0 (v:=?_) hTl hHeld rfl ?_ (fun hTl=>?_);rotate_left
 ·intro w hSw;(try dsimp only at hSw);go_simp;all_goals with_reducible rfl
 try simp only [pT]
 refine tkT 1 (v:=?_) hTl hHeld rfl ?_ (fun hTl=>?_);rotate_left
 ·intro w hSw;(try dsimp only at hSw);go_simp;all_goals with_reducible rfl
 try simp only [pT]
 refine tkT 2 (v:=?_) hTl hHeld rfl ?_ (fun hTl=>?_);rotate_left
 ·intro w hSw;(try dsimp only at hSw);go_simp;all_goals with_reducible rfl
 try simp only [pT]
 refine tkT 3 (v:=?_) hTl hHeld rfl ?_ (fun hTl=>?_);rotate_left
 ·intro w hSw;(try dsimp only at hSw);go_simp;all_goals with_reducible rfl
 try simp only [pT]
 refine tkT 5 (v:=?_) hTl hHeld rfl ?_ (fun hTl=>?_);rotate_left
 ·intro w hSw;(try dsimp only at hSw);go_simp;all_goals with_reducible rfl
 try simp only [pT]
 refine tkT 6 (v:=?_) hTl hHeld rfl ?_ (fun hTl=>?_);rotate_left
 ·intro w hSw;(try dsimp only at hSw);go_simp;all_goals with_reducible rfl
 try simp only [pT]
 refine tkT 7 (v:=?_) hTl hHeld rfl ?_ (fun hTl=>?_);rotate_left
 ·intro w hSw;(try dsimp only at hSw);go_simp;all_goals with_reducible rfl
 try simp only [pT]
 refine tkT 8 (v:=?_) hTl hHeld rfl ?_ (fun hTl=>?_);rotate_left
 ·intro w hSw;(try dsimp only at hSw);go_simp;all_goals with_reducible rfl
 try simp only [pT]
 refine tkT 9 (v:=?_) hTl hHeld rfl ?_ (fun hTl=>?_);rotate_left
 ·intro w hSw;(try dsimp only at hSw);go_simp;all_goals with_reducible rfl
 try simp only [pT]
 refine tkT 11 (v:=?_) hTl hHeld rfl ?_ (fun hTl=>?_);rotate_left
 ·intro w hSw;(try dsimp only at hSw);go_simp;all_goals with_reducible rfl
 try simp only [pT]
 clear hTl;refine twoE 4 10 rfl rfl (by kernel_rfl) (fun K hK=>?_) (fun K hK=>?_)
 ·go_simp;have hb3a:Below w2.heap.size w2 (w2.drew.alloc (.cells #[.int .u8 (kl:Nat)] 5)):=hbd.alloc hbd.size _;refine hK.out _ _ (fun _=>kS _ hb3a) ?_;clear hK K
  try simp only [pT]
  refine oneE 10 rfl (by kernel_rfl) (fun K hK=>?_);refine sC rfl 203 _ (by go_simp) (hV _) ?_
  rintro e w4 ⟨Ap,cp,e3,hrp,hb4'⟩;subst e3;refine ⟨_,rfl,?_⟩;have hb4:Below w2.heap.size w2 w4:=hb3a.trans (hb4'.mono hb3a.size)
  refine hK.out _ _ (fun _=>kS _ hb4) ?_;clear hK K
  try simp only [pT]
  have hbw4:Below w.heap.size w w4:=hbw2.trans (hb4.mono hbw2.size);have hr1:=rM ((one_byte w2.drew kl (by omega)).below hb4') hb4'.size;have hr2:=rM (hr.below (hbw4.mono hB)) (nT hB hbw4.size);have hr3:=hrp;have hr4:=rM (hrv.below hb4) hb4.size;have hC:=row4 (c1:=1) (c2:=kc) (c3:=cp) (c4:=vc) hr1 hr2 hr3 hr4 (by simp only [lQ,List.length_singleton];have:=KL.out;have:=putN_len size.toNat;have:=HNV.out;have:=HVL.out;omega);simp only [List.length_singleton,KL.out,HNV.out] at hC
  obtain ⟨n5,N5⟩:∃ x,Hid (([UInt8.ofNat kl]++(key++(putN size.toNat++val))).length=x):=⟨_,lH rfl⟩
  rw [N5.out] at hC;refine oneE 12 rfl (by kernel_rfl) (fun K hK=>?_);go_simp;refine hK.out _ _ (fun _=>kS _ (hb4.alloc hb4.size _)) ?_;clear hK K
  try simp only [pT]
  refine oneE 13 rfl (by kernel_rfl) (fun K hK=>?_);refine sC rfl 182 _ (by go_simp) hC ?_;rintro e w5 ⟨v5,e5,ho5,hb5⟩;subst e5;obtain ⟨A5,c5,rfl⟩:=own_formS ho5;refine ⟨_,rfl,?_⟩;refine hK.out _ _ (fun _=>kS _ (hb4.trans (hb5.mono hb4.size))) ?_;clear hK K
  try simp only [pT]
  refine oneE 14 rfl (by kernel_rfl) (fun K hK=>?_);go_simp;refine hK.out _ _ (fun h=>absurd h (by decide)) ?_;clear hK K
  try simp only [pT]
  refine oneE 15 rfl (by kernel_rfl) (fun K hK=>?_);go_simp;refine hK.out _ _ (fun h=>absurd h (by decide)) ?_;clear hK K
  try simp only [pT]
  refine doneE (by kernel_rfl) ?_ _;go_wp2;go_ret2;refine ⟨_,rfl,own_n (own_le ho5 hbw4.size) ?_,hbw4.trans (hb5.mono hbw4.size)⟩;have e3:(UInt8.ofNat kl::(key++(putN size.toNat++val))).length=n5:=N5.out
  first
   | exact e3.symm
   | (rw [<-e3];simp;done)
   | (rw [<-e3];simp;omega)
 ·refine sC rfl 203 _ (by go_simp) (hV _) ?_;rintro e w6 ⟨Ap,cp,e3,hrp,hb6⟩;subst e3;refine ⟨_,rfl,?_⟩;have hbd6:Below w2.heap.size w2 w6:=hbd.trans (hb6.mono hbd.size);refine hK.out _ _ (fun _=>kS _ hbd6) ?_;clear hK K
  try simp only [pT]
  refine oneE 4 rfl (by kernel_rfl) (fun K hK=>?_);go_simp;refine hK.out _ _ (fun _=>kS _ (hbd6.alloc hbd6.size _)) ?_;clear hK K
  try simp only [pT]
  have hb4:Below w2.heap.size w2 (w6.alloc (.cells #[.int .u8 (kl:Nat)] 5)):=hbd6.alloc hbd6.size _;have hbw4:Below w.heap.size w (w6.alloc (.cells #[.int .u8 (kl:Nat)] 5)):=hbw2.trans (hb4.mono hbw2.size);have hba:Below w6.heap.size w6 (w6.alloc (.cells #[.int .u8 (kl:Nat)] 5)):=(bR _ w6).alloc (nR _) _;have hr1:=one_byte w6 kl (by omega);have hr2:=rM (hr.below (hbw4.mono hB)) (nT hB hbw4.size);have hr3:=rM (hrp.below hba) hba.size;have hr4:=rM (hrv.below hb4) hb4.size;have hC:=row4 (c1:=1) (c2:=kc) (c3:=cp) (c4:=vc) hr1 hr2 hr3 hr4 (by simp only [lQ,List.length_singleton];have:=KL.out;have:=putN_len size.toNat;have:=HNV.out;have:=HVL.out;omega);simp only [List.length_singleton,KL.out,HNV.out] at hC
  obtain ⟨n5,N5⟩:∃ x,Hid (([UInt8.ofNat kl]++(key++(putN size.toNat++val))).length=x):=⟨_,lH rfl⟩
  rw [N5.out] at hC;refine oneE 12 rfl (by kernel_rfl) (fun K hK=>?_);go_simp;refine hK.out _ _ (fun _=>kS _ (hb4.alloc hb4.size _)) ?_;clear hK K
  try simp only [pT]
  refine oneE 13 rfl (by kernel_rfl) (fun K hK=>?_);refine sC rfl 182 _ (by go_simp) hC ?_;rintro e w5 ⟨v5,e5,ho5,hb5⟩;subst e5;obtain ⟨A5,c5,rfl⟩:=own_formS ho5;refine ⟨_,rfl,?_⟩;refine hK.out _ _ (fun _=>kS _ (hb4.trans (hb5.mono hb4.size))) ?_;clear hK K
  try simp only [pT]
  refine oneE 14 rfl (by kernel_rfl) (fun K hK=>?_);go_simp;refine hK.out _ _ (fun h=>absurd h (by decide)) ?_;clear hK K
  try simp only [pT]
  refine oneE 15 rfl (by kernel_rfl) (fun K hK=>?_);go_simp;refine hK.out _ _ (fun h=>absurd h (by decide)) ?_;clear hK K
  try simp only [pT]
  refine doneE (by kernel_rfl) ?_ _;go_wp2;go_ret2;refine ⟨_,rfl,own_n (own_le ho5 hbw4.size) ?_,hbw4.trans (hb5.mono hbw4.size)⟩;have e3:(UInt8.ofNat kl::(key++(putN size.toNat++val))).length=n5:=N5.out
  first
   | exact e3.symm
   | (rw [<-e3];simp;done)
   | (rw [<-e3];simp;omega)
theorem PutLeaf_over {B:Nat} (ka:Option Addr) (kc:Nat) (key:List UInt8) (size:Int) (va:Option Addr) (vc:Nat) (val:List UInt8) (over kid:Nat) (w:World) (hB:B<=w.heap.size) (hr:Reads w B 1 ka key.length (bl key)) (hrv0:Reads w B 1 va val.length (bl val)) (h:leafT key.length size val.length over kid=true) (ho:over<4294967296) (hsz:40<size) :
 Calls Tryz.prog 170 #[cellV ka key.length kc size va val.length vc over kid] w fun e w'=>∃ v,e=.returned (.tuple #[v,.int .i64 0])/\w'.ownsRow w.heap.size 5 1 v (UInt8.ofNat key.length::(key++(putN size.toNat++fixN 4 over))).length (bl (UInt8.ofNat key.length::(key++(putN size.toNat++fixN 4 over))))/\Below w.heap.size w w':=by
 have hI:=fun W=>isLeaf_any ka key.length kc size va val.length vc over kid W;rw [h] at hI;unfold leafT at h;rw [decide_eq_true_eq] at h;obtain ⟨hk1,hkl,hs0,hs1,hkid,hsv,hso⟩:=h;have HKID:=lH hkid;clear hkid;unfold cellV at hI ⊢;have hC:=cellV_blk w ka key.length kc size va val.length vc over kid
 obtain ⟨kl,KL⟩:∃ x,Hid (key.length=x):=⟨_,lH rfl⟩
 obtain ⟨vl,VL⟩:∃ x,Hid (val.length=x):=⟨_,lH rfl⟩
 rw [KL.out,VL.out] at hI hC;rw [KL.out] at hkl hk1
 have hvl:vl<=40:=by have:=VL.out;by_cases h40:size<=40;(have:=(hsv h40).1;omega);(have:=(hso (by omega)).1;omega)
 have HC:=lH hC
 obtain ⟨sz,hsz0⟩:∃ sz:Nat,size=sz:=⟨size.toNat,by omega⟩
 have hw64:IntKind.u64.wrap size=(size.toNat:Int):=by rw [IntKind.wrap_u64];omega
 have hwo:IntKind.u64.wrap (over:Int)=(over:Int):=by rw [IntKind.wrap_u64];omega
 have hw8:IntKind.u8.wrap (kl:Int)=(kl:Int):=by rw [IntKind.wrap_u8];omega
 have hV:=fun W=>VPut_any size.toNat (by omega) W;have d40:decide (40<size)=true:=dT (by omega);rw [KL.out,VL.out];have HSV:=lH (aI hsv hso);have HSZ:=lH hsz0;have HVL:=lH hvl;have HFF:=lH (aI hw64 (aI hw8 hV));clear hC hsv hso hsz0 hw64 hw8 hV hvl;go_enter Tryz.func170,Tryz.ntmps170
 go_wp2_with (first
  | (go_at_call 202;refine (hI _).mono ?_;rintro e w2 ⟨rfl,hb2⟩;have hC2a:=HC.out.below hb2 HC.out.lt;have c1:w2.cell? ⟨w.heap.size,1,none⟩=some (.int .i64 size):=hC2a.cell 1;have c2:w2.cell? ⟨w.heap.size,2,none⟩=some (.slice va vl vc):=hC2a.cell 2;have c3:w2.cell? ⟨w.heap.size,3,none⟩=some (.int .u32 (over:Nat)):=hC2a.cell 3)
  | (go_at_call 144;refine (Fixed_any over 4 (by omega) (by omega) (by omega) _).mono ?_;rintro e w3 ⟨g,rfl,hg,hB3,hb3⟩))
 obtain ⟨hw64,hw8,hV⟩:=HFF.out;have hbw2:Below w.heap.size w w2:=((bR _ w).alloc (nR _) _).trans (hb2.mono (by simp));have hC2:=HC.out.below hb2 HC.out.lt;have hbw3:Below w.heap.size w w3:=hbw2.trans (hb3.mono hbw2.size);have hC3:=hC2.below hb3 hC2.lt;have hrv:=rB hB3 rfl;have HNV:Hid ((fixN 4 over).length=4):=lH (fL 4 over);clear c1 c2 c3 hC2a;have hCx:=hC3;have k0:w3.cell? ⟨w.heap.size,0,none⟩=some (.slice ka kl kc):=hCx.cell 0;have k1:w3.cell? ⟨w.heap.size,1,none⟩=some (.int .i64 size):=hCx.cell 1
 have kS:∀ W,Below w3.heap.size w3 W->(W.cell? ⟨w.heap.size,0,none⟩=some (.slice ka kl kc)/\W.cell? ⟨w.heap.size,1,none⟩=some (.int .i64 size)):=fun W hW=>⟨(hW.cell (p:=⟨w.heap.size,0,none⟩) hCx.lt).trans k0,(hW.cell (p:=⟨w.heap.size,1,none⟩) hCx.lt).trans k1⟩
 have hbd:Below w3.heap.size w3 w3.drew:=(bR _ w3).drew;refine regionE 14 (fun W0=>W0.cell? ⟨w.heap.size,0,none⟩=some (.slice ka kl kc)/\W0.cell? ⟨w.heap.size,1,none⟩=some (.int .i64 size)) (by kernel_rfl) (by kernel_rfl) (by kernel_rfl) (by kernel_rfl) (by kernel_rfl) (kS _ hbd) (fun hHeld hTl=>?_);refine tkT 0 (v:=?_) hTl hHeld rfl ?_ (fun hTl=>?_);rotate_left
 ·intro w hSw;(try dsimp only at hSw);go_simp;all_goals with_reducible rfl
 try simp only [pT]
 refine tkT 1 (v:=?_) hTl hHeld rfl ?_ (fun hTl=>?_);rotate_left
 ·intro w hSw;(try dsimp only at hSw);go_simp;all_goals with_reducible rfl
 try simp only [pT]
 refine tkT 2 (v:=?_) hTl hHeld rfl ?_ (fun hTl=>?_);rotate_left
 ·intro w hSw;(try dsimp only at hSw);go_simp;all_goals with_reducible rfl
 try simp only [pT]
 refine tkT 3 (v:=?_) hTl hHeld rfl ?_ (fun hTl=>?_);rotate_left
 ·intro w hSw;(try dsimp only at hSw);go_simp;all_goals with_reducible rfl
 try simp only [pT]
 refine tkT 5 (v:=?_) hTl hHeld rfl ?_ (fun hTl=>?_);rotate_left
 ·intro w hSw;(try dsimp only at hSw);go_simp;all_goals with_reducible rfl
 try simp only [pT]
 refine tkT 6 (v:=?_) hTl hHeld rfl ?_ (fun hTl=>?_);rotate_left
 ·intro w hSw;(try dsimp only at hSw);go_simp;all_goals with_reducible rfl
 try simp only [pT]
 refine tkT 7 (v:=?_) hTl hHeld rfl ?_ (fun hTl=>?_);rotate_left
 ·intro w hSw;(try dsimp only at hSw);go_simp;all_goals with_reducible rfl
 try simp only [pT]
 refine tkT 8 (v:=?_) hTl hHeld rfl ?_ (fun hTl=>?_);rotate_left
 ·intro w hSw;(try dsimp only at hSw);go_simp;all_goals with_reducible rfl
 try simp only [pT]
 refine tkT 9 (v:=?_) hTl hHeld rfl ?_ (fun hTl=>?_);rotate_left
 ·intro w hSw;(try dsimp only at hSw);go_simp;all_goals with_reducible rfl
 try simp only [pT]
 refine tkT 11 (v:=?_) hTl hHeld rfl ?_ (fun hTl=>?_);rotate_left
 ·intro w hSw;(try dsimp only at hSw);go_simp;all_goals with_reducible rfl
 try simp only [pT]
 clear hTl;refine twoE 4 10 rfl rfl (by kernel_rfl) (fun K hK=>?_) (fun K hK=>?_)
 ·go_simp;have hb3a:Below w3.heap.size w3 (w3.drew.alloc (.cells #[.int .u8 (kl:Nat)] 5)):=hbd.alloc hbd.size _;refine hK.out _ _ (fun _=>kS _ hb3a) ?_;clear hK K
  try simp only [pT]
  refine oneE 10 rfl (by kernel_rfl) (fun K hK=>?_);refine sC rfl 203 _ (by go_simp) (hV _) ?_
  rintro e w4 ⟨Ap,cp,e3,hrp,hb4'⟩;subst e3;refine ⟨_,rfl,?_⟩;have hb4:Below w3.heap.size w3 w4:=hb3a.trans (hb4'.mono hb3a.size)
  refine hK.out _ _ (fun _=>kS _ hb4) ?_;clear hK K
  try simp only [pT]
  have hbw4:Below w.heap.size w w4:=hbw3.trans (hb4.mono hbw3.size);have hr1:=rM ((one_byte w3.drew kl (by omega)).below hb4') hb4'.size;have hr2:=rM (hr.below (hbw4.mono hB)) (nT hB hbw4.size);have hr3:=hrp;have hr4:=rM (hrv.below hb4) hb4.size;have hC:=row4 (c1:=1) (c2:=kc) (c3:=cp) (c4:=4) hr1 hr2 hr3 hr4 (by simp only [lQ,List.length_singleton];have:=KL.out;have:=putN_len size.toNat;have:=HNV.out;have:=HVL.out;omega);simp only [List.length_singleton,KL.out,HNV.out] at hC
  obtain ⟨n5,N5⟩:∃ x,Hid (([UInt8.ofNat kl]++(key++(putN size.toNat++(fixN 4 over)))).length=x):=⟨_,lH rfl⟩
  rw [N5.out] at hC;refine oneE 12 rfl (by kernel_rfl) (fun K hK=>?_);go_simp;refine hK.out _ _ (fun _=>kS _ (hb4.alloc hb4.size _)) ?_;clear hK K
  try simp only [pT]
  refine oneE 13 rfl (by kernel_rfl) (fun K hK=>?_);refine sC rfl 182 _ (by go_simp) hC ?_;rintro e w5 ⟨v5,e5,ho5,hb5⟩;subst e5;obtain ⟨A5,c5,rfl⟩:=own_formS ho5;refine ⟨_,rfl,?_⟩;refine hK.out _ _ (fun _=>kS _ (hb4.trans (hb5.mono hb4.size))) ?_;clear hK K
  try simp only [pT]
  refine oneE 14 rfl (by kernel_rfl) (fun K hK=>?_);go_simp;refine hK.out _ _ (fun h=>absurd h (by decide)) ?_;clear hK K
  try simp only [pT]
  refine oneE 15 rfl (by kernel_rfl) (fun K hK=>?_);go_simp;refine hK.out _ _ (fun h=>absurd h (by decide)) ?_;clear hK K
  try simp only [pT]
  refine doneE (by kernel_rfl) ?_ _;go_wp2;go_ret2;refine ⟨_,rfl,own_n (own_le ho5 hbw4.size) ?_,hbw4.trans (hb5.mono hbw4.size)⟩;have e3:(UInt8.ofNat kl::(key++(putN size.toNat++(fixN 4 over)))).length=n5:=N5.out
  first
   | exact e3.symm
   | (rw [<-e3];simp;done)
   | (rw [<-e3];simp;omega)
 ·refine sC rfl 203 _ (by go_simp) (hV _) ?_;rintro e w6 ⟨Ap,cp,e3,hrp,hb6⟩;subst e3;refine ⟨_,rfl,?_⟩;have hbd6:Below w3.heap.size w3 w6:=hbd.trans (hb6.mono hbd.size);refine hK.out _ _ (fun _=>kS _ hbd6) ?_;clear hK K
  try simp only [pT]
  refine oneE 4 rfl (by kernel_rfl) (fun K hK=>?_);go_simp;refine hK.out _ _ (fun _=>kS _ (hbd6.alloc hbd6.size _)) ?_;clear hK K
  try simp only [pT]
  have hb4:Below w3.heap.size w3 (w6.alloc (.cells #[.int .u8 (kl:Nat)] 5)):=hbd6.alloc hbd6.size _;have hbw4:Below w.heap.size w (w6.alloc (.cells #[.int .u8 (kl:Nat)] 5)):=hbw3.trans (hb4.mono hbw3.size);have hba:Below w6.heap.size w6 (w6.alloc (.cells #[.int .u8 (kl:Nat)] 5)):=(bR _ w6).alloc (nR _) _;have hr1:=one_byte w6 kl (by omega);have hr2:=rM (hr.below (hbw4.mono hB)) (nT hB hbw4.size);have hr3:=rM (hrp.below hba) hba.size;have hr4:=rM (hrv.below hb4) hb4.size;have hC:=row4 (c1:=1) (c2:=kc) (c3:=cp) (c4:=4) hr1 hr2 hr3 hr4 (by simp only [lQ,List.length_singleton];have:=KL.out;have:=putN_len size.toNat;have:=HNV.out;have:=HVL.out;omega);simp only [List.length_singleton,KL.out,HNV.out] at hC
  obtain ⟨n5,N5⟩:∃ x,Hid (([UInt8.ofNat kl]++(key++(putN size.toNat++(fixN 4 over)))).length=x):=⟨_,lH rfl⟩
  rw [N5.out] at hC;refine oneE 12 rfl (by kernel_rfl) (fun K hK=>?_);go_simp;refine hK.out _ _ (fun _=>kS _ (hb4.alloc hb4.size _)) ?_;clear hK K
  try simp only [pT]
  refine oneE 13 rfl (by kernel_rfl) (fun K hK=>?_);refine sC rfl 182 _ (by go_simp) hC ?_;rintro e w5 ⟨v5,e5,ho5,hb5⟩;subst e5;obtain ⟨A5,c5,rfl⟩:=own_formS ho5;refine ⟨_,rfl,?_⟩;refine hK.out _ _ (fun _=>kS _ (hb4.trans (hb5.mono hb4.size))) ?_;clear hK K
  try simp only [pT]
  refine oneE 14 rfl (by kernel_rfl) (fun K hK=>?_);go_simp;refine hK.out _ _ (fun h=>absurd h (by decide)) ?_;clear hK K
  try simp only [pT]
  refine oneE 15 rfl (by kernel_rfl) (fun K hK=>?_);go_simp;refine hK.out _ _ (fun h=>absurd h (by decide)) ?_;clear hK K
  try simp only [pT]
  refine doneE (by kernel_rfl) ?_ _;go_wp2;go_ret2;refine ⟨_,rfl,own_n (own_le ho5 hbw4.size) ?_,hbw4.trans (hb5.mono hbw4.size)⟩;have e3:(UInt8.ofNat kl::(key++(putN size.toNat++(fixN 4 over)))).length=n5:=N5.out
  first
   | exact e3.symm
   | (rw [<-e3];simp;done)
   | (rw [<-e3];simp;omega)
theorem nfixed_any (n:Nat) (hn:n<4294967296) (w:World):Calls Tryz.prog 147 #[.int .u32 n] w fun e w'=>∃ g,e=.returned (.slice (some ⟨g,0,none⟩) 4 4)/\w.heap.size<=g/\Blk w' g 5 (bl (fixN 4 n)).toArray/\Below w.heap.size w w':=by
 have hF:=Fixed_any n 4 (by omega) (by omega) (by omega);go_enter Tryz.func147,Tryz.ntmps147
 go_wp2_with (go_at_call 144;refine (hF _).mono ?_;rintro e w2 ⟨g,rfl,hg,hB,hb⟩)
 go_ret;exact ⟨g,rfl,hg,hB,hb⟩
theorem spl_pad {b:List UInt8} (h:b.length<=243):spl (zB 243) 0 b=padB b:=by
 unfold spl padB zB;rw [List.take_zero,List.nil_append,List.drop_replicate];simp
theorem laid_any {B:Nat} (g cap:Nat) (ps:List Pt) (w:World) (hB:B<=w.heap.size) (hg:∀ k p,ps[k]?=some p->w.cell? ⟨g,k,none⟩=some p.val) (hr:∀ p∈ps,Reads w B 1 p.A p.b.length (bl p.b)) (hs:(cat ps).length<=243) (hl:ps.length<=100) (hgl:g<w.heap.size) :
 Calls Tryz.prog 146 #[.slice (some ⟨g,0,none⟩) ps.length cap] w fun e w'=>∃ g',e=.returned (.slice (some ⟨g',0,none⟩) 243 243)/\w.heap.size<=g'/\Blk w' g' 5 (bl (padB (cat ps))).toArray/\Below w.heap.size w w':=by
 have hm:∀ W:World,(Instr.makeSlice 23 (.int .i64 243) (.int .i64 243)).run Tryz.prog W=.ok (.slice (some ⟨W.heap.size,0,none⟩) 243 243) (W.alloc (.cells (bl (zB 243)).toArray 5)):=fun W=>make_zB 243 (by omega) W;have hb1:Below w.heap.size w (w.alloc (.cells (bl (zB 243)).toArray 5)):=(bR _ w).alloc (nR _) _;have bG:=Blk.new w 5 (bl (zB 243)).toArray;have hC:=Concat_any (B:=B) g cap ps (w.alloc (.cells (bl (zB 243)).toArray 5)) (nT hB hb1.size) (fun k p hk=>(hb1.cell (p:=⟨g,k,none⟩) hgl).trans (hg k p hk)) (fun p hp=>(hr p hp).below (hb1.mono hB)) (by omega) hl
 obtain ⟨c,HC⟩:∃ x,Hid (cat ps=x):=⟨_,lH rfl⟩
 rw [HC.out] at hC hs ⊢
 obtain ⟨n,HN⟩:∃ x,Hid (c.length=x):=⟨_,lH rfl⟩
 rw [HN.out] at hC hs;have HB:=lH bG;clear hg hr bG;go_enter Tryz.func146,Tryz.ntmps146
 go_wp2_with (first
  | (go_at_call 182;refine hC.mono ?_;rintro e w2 ⟨v,rfl,ho2,hb2⟩;obtain ⟨A2,c2,rfl⟩:=own_formS ho2;have bG2:=HB.out.below hb2 (by simp))
  | (refine list_cpF rfl (.tmp 5) (.tmp 7) rfl rfl rfl w.heap.size 0 5 (zB 243) c bG2 rfl (Reads.of_own ho2) (by omega) (by rw [zB_len];omega) ?_;intro w3 bG3 hf3))
 rw [spl_pad (by rw [HN.out];omega)] at bG3;have hb12:Below w.heap.size w w2:=hb1.trans (hb2.mono hb1.size);go_ret;exact ⟨_,rfl,nR _,bG3,hb12.trans (hf3.below hb12.size (fun k hk=>by omega))⟩
def headT (root pages free:Nat):Bool:=decide (2<=pages/\pages<=512/\1<=root/\root<pages/\free<pages)
theorem isHead_any (root pages free entries:Nat) (w:World) :
 Calls Tryz.prog 118 #[.agg #[.int .u32 root,.int .u32 pages,.int .u32 free,.int .u64 entries]] w fun e w'=>e=.returned (.bool (headT root pages free))/\Below w.heap.size w w':=by
 go_enter Tryz.func118,Tryz.ntmps118;go_wp2
 all_goals
  go_ret;refine ⟨retB ?_,(bR _ _).alloc (nR _) _⟩;unfold headT
  first
   | (rw [Bool.eq_iff_iff];simp only [decide_eq_true_eq,beq_iff_eq,Bool.false_eq_true,false_iff];omega)
   | (rw [Bool.eq_iff_iff];simp;omega)
theorem conv_reads {w:World} {B:Nat} {A:Option Addr} {b:List UInt8} (c:Nat) (h:Reads w B 1 A b.length (bl b)):(convert 23 9 (.slice A b.length c)).run Tryz.prog w=.ok (.string ⟨b.toArray⟩) w:=by
 have hnil:b.length=0->b=[]:=fun h0=>List.eq_nil_of_length_eq_zero h0
 have hbl:bl b=(b.map fun x=>(x.toNat:Int)).map (Value.int .u8):=by
  unfold bl;rw [List.map_map];rfl
 cases A with
 | none =>
  have h0:b.length=0:=by
   rcases Nat.eq_zero_or_pos b.length with h0 | h0
   ·exact h0
   ·obtain ⟨p,hp,_⟩:=h.2 h0
    cases hp
  obtain rfl:=hnil h0;exact run_convert_bytes_nil w 23 5 Tryz.underlying23 Tryz.underlying5 _ c 9 Tryz.underlying9
 | some p =>
  have hl:(loadCells p b.length).run Tryz.prog w=.ok ((b.map fun x=>(x.toNat:Int)).map (Value.int .u8)).toArray w:=by
   have:=run_loadCells_list (P:=Tryz.prog) (w:=w) p (bl b) (fun j v hj=>by
    have hj':j<b.length:=by have:=(lS.1 hj).1;simpa [bl] using this
    obtain ⟨q,hq,_,hc⟩:=h.2 (by omega)
    cases hq
    exact hc j v hj)
   rw [hbl] at this
   simpa using this
  rw [run_convert_bytes_string w 23 9 5 _ b.length c Tryz.underlying23 Tryz.underlying5 Tryz.underlying9,run_bytesToString w _ b.length c _ hl,foldl_push_bytes];congr 2;simp only [List.map_map];rw [List.map_congr_left (g:=id) (fun x _=>by simp),List.map_id];simp [ByteArray.empty,ByteArray.emptyWithCapacity];rfl
theorem Equal_any {B1 B2:Nat} {A1 A2:Option Addr} {a b:List UInt8} (c1 c2:Nat) (w:World) (h1:Reads w B1 1 A1 a.length (bl a)) (h2:Reads w B2 1 A2 b.length (bl b)) :
 Calls Tryz.prog 116 #[.slice A1 a.length c1,.slice A2 b.length c2] w fun e w'=>e=.returned (.bool (decide (a=b)))/\w'=w:=by
 have k1:=conv_reads c1 h1;have k2:=conv_reads c2 h2;go_enter Tryz.func116,Tryz.ntmps116;go_wp2;go_ret;exact ⟨retB (by rw [Bool.eq_iff_iff,beq_iff_eq,decide_eq_true_eq]),rfl⟩
theorem run_loadBytes {P:Program} {w:World}:∀ (b:List UInt8) (p:Addr) (acc:ByteArray),(∀ j u,(bl b)[j]?=some u->w.cell? (p.add j)=some u)->(Extern.Bytes.loadBytes p b.length acc).run P w=.ok ⟨acc.data++b.toArray⟩ w
 | [],p,acc,_=>by simp [Extern.Bytes.loadBytes]
 | x::b,p,acc,h=>by
  have h0:w.cell? p=some (.int .u8 (x.toNat:Nat)):=by
   have:=h 0 _ rfl
   rwa [show p.add 0=p by unfold Addr.add;rw [if_pos rfl]] at this
  have ih:=run_loadBytes (P:=P) (w:=w) b (p.add 1) (acc.push x) (fun j u hu=>by
   rw [add_of_add,Nat.add_comm]
   exact h (j+1) u hu)
  show (Extern.Bytes.loadBytes p (b.length+1) acc).run P w=_;unfold Extern.Bytes.loadBytes
  have hld:(load p).run P w=.ok (.int .u8 (x.toNat:Nat)) w:=by simp [run_load,h0]
  simp only [Sem.run_bind,hld,Result.andThen]
  have hx:((x.toNat:Nat):Int).toNat.toUInt8=x:=by simp
  rw [hx];refine (congrArg (fun r=>r) ih).trans ?_;simp [ByteArray.push]
theorem run_bytesOf {P:Program} {w:World} {B:Nat} {A:Option Addr} {b:List UInt8} (c:Nat) (h:Reads w B 1 A b.length (bl b)):(Extern.Bytes.bytesOf (.slice A b.length c)).run P w=.ok ⟨b.toArray⟩ w:=by
 cases A with
 | none =>
  have h0:b=[]:=by
   rcases Nat.eq_zero_or_pos b.length with h0 | h0
   ·exact List.eq_nil_of_length_eq_zero h0
   ·obtain ⟨p,hp,_⟩:=h.2 h0
    cases hp
  subst h0;rfl
 | some p =>
  have:=run_loadBytes (P:=P) (w:=w) b p .empty (fun j u hu=>by
   have hj':j<b.length:=by have:=(lS.1 hu).1;simpa [bl] using this
   obtain ⟨q,hq,_,hc⟩:=h.2 (by omega)
   cases hq
   exact hc j u hu)
  unfold Extern.Bytes.bytesOf;rw [this];simp
theorem run_compare {P:Program} {w:World} {B1 B2:Nat} {A1 A2:Option Addr} {a b:List UInt8} (c1 c2:Nat) (h1:Reads w B1 1 A1 a.length (bl a)) (h2:Reads w B2 1 A2 b.length (bl b)) :
 (Extern.BytealgCompare.compare #[.slice A1 a.length c1,.slice A2 b.length c2]).run P w=.ok (.int .i64 (Lib.compareBytes a b)) w:=by
 change Sem.run P (do pure (goInt (Extern.BytealgCompare.cmp (<-Extern.Bytes.bytesOf (.slice A1 a.length c1)) (<-Extern.Bytes.bytesOf (.slice A2 b.length c2))))) w=_;simp only [Sem.run_bind,run_bytesOf c1 h1,run_bytesOf c2 h2,Sem.run_pure,Result.andThen];rw [Lib.cmp_eq];rfl
theorem cmp_lt:∀ a b:List UInt8,(Lib.compareBytes a b<0)↔a<b
 | [],[]=>by simp [Lib.compareBytes]
 | [],_::_=>by simp [Lib.compareBytes]
 | _::_,[]=>by simp [Lib.compareBytes]
 | a::s,b::t=>by
  unfold Lib.compareBytes;rw [List.cons_lt_cons_iff];by_cases h1:a<b
  ·rw [if_pos h1];simp [h1]
  ·rw [if_neg h1];by_cases h2:b<a
   ·rw [if_pos h2];constructor
    ·intro h;omega
    ·rintro (h | ⟨rfl,_⟩)
     ·exact absurd h h1
     ·exact absurd h2 (UInt8.lt_irrefl _)
   ·rw [if_neg h2,cmp_lt s t];have e:a=b:=UInt8.le_antisymm (UInt8.not_lt.1 h2) (UInt8.not_lt.1 h1);constructor
    ·intro h;exact .inr ⟨e,h⟩
    ·rintro (h | ⟨_,h⟩)
     ·exact absurd h h1
     ·exact h
def twT:List (List UInt8)->Bool
 | a::b::l=>decide (a=b) || twT (b::l)
 | _=>false
def upT:List (List UInt8)->Bool
 | a::b::l=>!decide (b<a) && upT (b::l)
 | _=>true
theorem lt_tri:∀ a b:List UInt8,a<b\/a=b\/b<a
 | [],[]=>.inr (.inl rfl)
 | [],_::_=>.inl (List.nil_lt_cons ..)
 | _::_,[]=>.inr (.inr (List.nil_lt_cons ..))
 | a::s,b::t=>by
  rw [List.cons_lt_cons_iff,List.cons_lt_cons_iff]
  rcases (show a<b\/a=b\/b<a by rcases Nat.lt_trichotomy a.toNat b.toNat with h | h | h;exact .inl (UInt8.lt_iff_toNat_lt.2 h);exact .inr (.inl (UInt8.toNat_inj.1 h));exact .inr (.inr (UInt8.lt_iff_toNat_lt.2 h))) with h | h | h
  ·exact .inl (.inl h)
  ·subst h
   rcases lt_tri s t with h | h | h
   ·exact .inl (.inr ⟨rfl,h⟩)
   ·subst h;exact .inr (.inl rfl)
   ·exact .inr (.inr (.inr ⟨rfl,h⟩))
  ·exact .inr (.inr (.inl h))
theorem lt_as {a b:List UInt8} (h1:a<b) (h2:b<a):False:=by
 induction a generalizing b with
 | nil=>cases b <;> simp at h1 h2
 | cons x a ih =>
  cases b with
  | nil=>simp at h1
  | cons y b =>
   rw [List.cons_lt_cons_iff] at h1 h2
   rcases h1 with h1 | ⟨rfl,h1⟩
   ·rcases h2 with h2 | ⟨rfl,h2⟩
    ·exact absurd (UInt8.lt_trans h1 h2) (UInt8.lt_irrefl _)
    ·exact absurd h1 (UInt8.lt_irrefl _)
   ·rcases h2 with h2 | ⟨_,h2⟩
    ·exact absurd h2 (UInt8.lt_irrefl _)
    ·exact ih h1 h2
theorem lt_two (a b:List UInt8):decide (a<b)=(!decide (a=b) && !decide (b<a)):=by
 rcases lt_tri a b with h | h | h
 ·have h2:¬ b<a:=fun h2=>lt_as h h2
  have h3:a≠b:=fun e=>by subst e;exact h2 h
  simp [h,h2,h3]
 ·subst h;have h2:¬ a<a:=fun h2=>lt_as h2 h2;simp [h2]
 ·have h2:¬ a<b:=fun h2=>lt_as h h2;simp [h,h2]
theorem rise_two:∀ l:List PC,riseK l=(!twT (l.map PC.key) && upT (l.map PC.key))
 | []=>rfl
 | [_]=>rfl
 | a::b::l=>by
  have ih:=rise_two (b::l);unfold riseK;rw [ih,lt_two];simp only [List.map_cons,twT,upT]
  cases decide (a.key=b.key) <;> cases decide (b.key<a.key) <;> cases twT (b.key::l.map PC.key) <;> cases upT (b.key::l.map PC.key) <;> rfl
theorem twT_iff:∀ l:List (List UInt8),twT l=true↔∃ i a,l[i]?=some a/\l[i+1]?=some a
 | []=>by simp [twT]
 | [_]=>by simp [twT]
 | a::b::l=>by
  unfold twT;rw [Bool.or_eq_true,decide_eq_true_eq,twT_iff (b::l)];constructor
  ·rintro (rfl | ⟨i,c,h1,h2⟩)
   ·exact ⟨0,a,rfl,rfl⟩
   ·exact ⟨i+1,c,h1,h2⟩
  ·rintro ⟨i,c,h1,h2⟩
   rcases i with _ | i
   ·simp at h1 h2;exact .inl (h1.trans h2.symm)
   ·exact .inr ⟨i,c,h1,h2⟩
theorem upT_iff:∀ l:List (List UInt8),upT l=true↔∀ i a b,l[i]?=some a->l[i+1]?=some b->¬ b<a
 | []=>by simp [upT]
 | [_]=>by simp [upT]
 | a::b::l=>by
  unfold upT;rw [Bool.and_eq_true,Bool.not_eq_true',decide_eq_false_iff_not,upT_iff (b::l)];constructor
  ·rintro ⟨h0,h⟩ i c d h1 h2
   rcases i with _ | i
   ·simp at h1 h2;subst h1;subst h2;exact h0
   ·exact h i c d h1 h2
  ·intro h;exact ⟨h 0 a b rfl rfl,fun i c d h1 h2=>h (i+1) c d h1 h2⟩
def hasCT (kind:Int):Bool:=decide (kind=3\/kind=2)
theorem hasCells_any (kind:Int) (w:World):Calls Tryz.prog 143 #[.int .i64 kind] w fun e w'=>e=.returned (.bool (hasCT kind))/\w'=w:=by
 go_enter Tryz.func143,Tryz.ntmps143;go_wp2
 all_goals
  go_ret;refine ⟨retB ?_,rfl⟩;unfold hasCT
  first
   | (rw [Bool.eq_iff_iff];simp only [decide_eq_true_eq,beq_iff_eq,Bool.false_eq_true,false_iff];omega)
   | (rw [Bool.eq_iff_iff];simp;omega)
   | (rw [Bool.eq_iff_iff];simp)
def nodeV (kind:Int) (lsn:Nat) (ca:Option Addr) (cl cc:Nat) (next:Nat) (da:Option Addr) (dl dc:Nat) (root pages free entries:Nat):Value :=
 .agg #[.int .i64 kind,.int .u64 lsn,.slice ca cl cc,.int .u32 next,.slice da dl dc,.int .u32 root,.int .u32 pages,.int .u32 free,.int .u64 entries]
def plainT (kind:Int) (cl next dl root pages free entries:Nat):Bool :=
 decide ((kind=1\/(root=0/\pages=0/\free=0/\entries=0))/\((kind=3\/kind=2)\/cl=0)/\(kind=4\/dl=0)/\((kind=4\/kind=5)\/next=0))
theorem head_eq (root pages free entries:Nat) (w:World):(binOp .eql 43 (.agg #[.int .u32 root,.int .u32 pages,.int .u32 free,.int .u64 entries]) (.agg #[.int .u32 0,.int .u32 0,.int .u32 0,.int .u64 0])).run Tryz.prog w=.ok (.bool (decide (root=0/\pages=0/\free=0/\entries=0))) w:=by
 have u1:=Tryz.underlying22;have a1:=Tryz.isAgg22;have z1:=Tryz.sizeOf22;have u2:=Tryz.underlying34;have a2:=Tryz.isAgg34;have z2:=Tryz.sizeOf34
 have hS:Tryz.prog.underlying 43=some (.struct (Tryz.prog.fieldsOf 43)):=by kernel_rfl
 have hp:Tryz.prog.stoodInHeld 43=false:=by kernel_rfl
 rw [run_eql_struct,show (10000:Nat)=9999+1 from rfl,run_equalIn_agg w 9999 43 _ _ hS hp];simp only [Program.fieldsOf,Tryz.underlying43];go_simp;by_cases h1:root=0 <;> by_cases h2:pages=0 <;> by_cases h3:free=0 <;> by_cases h4:entries=0 <;> simp [h1,h2,h3,h4]
theorem isPlain_any (kind:Int) (lsn:Nat) (ca:Option Addr) (cl cc:Nat) (next:Nat) (da:Option Addr) (dl dc:Nat) (root pages free entries:Nat) (w:World) :
 Calls Tryz.prog 117 #[nodeV kind lsn ca cl cc next da dl dc root pages free entries] w fun e w'=>e=.returned (.bool (plainT kind cl next dl root pages free entries))/\Below w.heap.size w w':=by
 unfold nodeV;have hH:=fun W=>hasCells_any kind W
 obtain ⟨hc,HC⟩:∃ x,Hid (hasCT kind=x):=⟨_,lH rfl⟩
 rw [HC.out] at hH;have hE:=head_eq root pages free entries
 obtain ⟨hz,HZ⟩:∃ x,Hid (decide (root=0/\pages=0/\free=0/\entries=0)=x):=⟨_,lH rfl⟩
 rw [HZ.out] at hE
 have hfin:(((kind==1) || hz) && (hc || (cl==0)) && ((kind==4) || (dl==0)) && ((kind==4) || (kind==5) || (next==0)))=plainT kind cl next dl root pages free entries:=by
  unfold plainT;rw [<-HC.out,<-HZ.out];unfold hasCT;rw [Bool.eq_iff_iff];simp [and_assoc,or_assoc]
 have HF:=lH hfin;clear hfin
 obtain ⟨x1,k1⟩:∃ x,(kind==1)=x:=⟨_,rfl⟩
 obtain ⟨x4,k4⟩:∃ x,(kind==4)=x:=⟨_,rfl⟩
 obtain ⟨x5,k5⟩:∃ x,(kind==5)=x:=⟨_,rfl⟩
 have e1:((cl:Int)==0)=(cl==0):=by rw [Bool.eq_iff_iff];simp
 have e2:((dl:Int)==0)=(dl==0):=by rw [Bool.eq_iff_iff];simp
 have e3:((next:Int)==0)=(next==0):=by rw [Bool.eq_iff_iff];simp
 obtain ⟨y1,l1⟩:∃ x,(cl==0)=x:=⟨_,rfl⟩
 obtain ⟨y2,l2⟩:∃ x,(dl==0)=x:=⟨_,rfl⟩
 obtain ⟨y3,l3⟩:∃ x,(next==0)=x:=⟨_,rfl⟩
 rw [l1] at e1;rw [l2] at e2;rw [l3] at e3;have HF2:Hid (((x1 || hz) && (hc || y1) && (x4 || y2) && (x4 || x5 || y3))=plainT kind cl next dl root pages free entries):=lH (by rw [<-HF.out,k1,k4,k5,l1,l2,l3]);clear HF HC HZ l1 l2 l3
 cases x1 <;> cases x4 <;> cases x5 <;> cases hc
 all_goals
  go_enter Tryz.func117,Tryz.ntmps117
  go_wp2_with (go_at_call 143;refine (hH _).mono ?_;rintro e w2 ⟨rfl,hb2⟩)
  all_goals
   subst hb2;go_ret;refine ⟨retB ?_,(bR _ _).alloc (nR _) _⟩;rw [<-HF2.out];simp_all
structure CX where
 ka:Option Addr
 kc:Nat
 va:Option Addr
 vc:Nat
 c:PC
def CX.val (x:CX):Value:=cellV x.ka x.c.key.length x.kc x.c.size x.va x.c.val.length x.vc x.c.over x.c.kid
def CX.cells (x:CX):List Value:=[.slice x.ka x.c.key.length x.kc,.int .i64 x.c.size,.slice x.va x.c.val.length x.vc,.int .u32 (x.c.over:Nat),.int .u32 (x.c.kid:Nat)]
structure CellsAt (w:World) (B:Nat) (A:Option Addr) (l:List CX):Prop where
 row:l=[]\/∃ g o,A=some ⟨g,o,none⟩/\g<B/\∀ k x,l[k]?=some x->∀ j u,x.cells[j]?=some u->w.cell? ⟨g,o+k*5+j,none⟩=some u
 key:∀ x∈l,Reads w B 1 x.ka x.c.key.length (bl x.c.key)
 val:∀ x∈l,Reads w B 1 x.va x.c.val.length (bl x.c.val)
theorem CellsAt.at_ {w:World} {B:Nat} {A:Option Addr} {l:List CX} (h:CellsAt w B A l) (h0:0<l.length):∃ g o,A=some ⟨g,o,none⟩/\g<B/\∀ k x,l[k]?=some x ->
 w.cell? ⟨g,o+k*5,none⟩=some (.slice x.ka x.c.key.length x.kc)/\w.cell? ⟨g,o+k*5+1,none⟩=some (.int .i64 x.c.size)/\w.cell? ⟨g,o+k*5+2,none⟩=some (.slice x.va x.c.val.length x.vc) /\
 w.cell? ⟨g,o+k*5+3,none⟩=some (.int .u32 (x.c.over:Nat))/\w.cell? ⟨g,o+k*5+4,none⟩=some (.int .u32 (x.c.kid:Nat)):=by
 rcases h.row with rfl | ⟨g,o,e,hg,hc⟩
 ·simp at h0
 ·exact ⟨g,o,e,hg,fun k x hx=>⟨hc k x hx 0 _ rfl,hc k x hx 1 _ rfl,hc k x hx 2 _ rfl,hc k x hx 3 _ rfl,hc k x hx 4 _ rfl⟩⟩
theorem CellsAt.below {w w':World} {B:Nat} {A:Option Addr} {l:List CX} (h:CellsAt w B A l) (hb:Below B w w'):CellsAt w' B A l:=by
 refine ⟨?_,fun x hx=>(h.key x hx).below hb,fun x hx=>(h.val x hx).below hb⟩
 rcases h.row with h0 | ⟨g,o,e,hg,hc⟩
 ·exact .inl h0
 ·exact .inr ⟨g,o,e,hg,fun k x hx j u hu=>(hb.cell (p:=⟨g,o+k*5+j,none⟩) hg).trans (hc k x hx j u hu)⟩
theorem CellsAt.mono {w:World} {B B':Nat} {A:Option Addr} {l:List CX} (h:CellsAt w B A l) (hb:B<=B'):CellsAt w B' A l:=by
 refine ⟨?_,fun x hx=>rM (h.key x hx) hb,fun x hx=>rM (h.val x hx) hb⟩
 rcases h.row with h0 | ⟨g,o,e,hg,hc⟩
 ·exact .inl h0
 ·exact .inr ⟨g,o,e,lT hg hb,hc⟩
def keysX (l:List CX):List (List UInt8):=l.map fun x=>x.c.key
theorem hasTwins_any {B:Nat} {A:Option Addr} {l:List CX} (c:Nat) (w:World) (h:CellsAt w B A l) (hl:l.length<=3000000) (hB:B<=w.heap.size) :
 Calls Tryz.prog 123 #[.slice A l.length c] w fun e w'=>e=.returned (.bool (twT (keysX l)))/\Below w.heap.size w w':=by
 have H:=lH h;clear h;go_enter Tryz.func123,Tryz.ntmps123;go_wp2
 go_loopw [3] (fun i wr=>∃ k:Nat,1<=k/\k<=l.length+1/\i=.int .i64 k/\(∀ j a b,j+1<k->(keysX l)[j]?=some a->(keysX l)[j+1]?=some b->a≠b)/\Below w.heap.size w wr) (fun i _=>l.length+1-(intOf i).toNat)
 case atStart=>exact ⟨1,nR _,by omega,rfl,fun j a b hj=>by omega,bR _ _⟩
 case round =>
  obtain ⟨k,hk1,hk2,rfl,hno,hb⟩:=hrel;have HNO:=lH hno;clear hno
  obtain ⟨wo,rfl⟩:∃ wo,wo=wr:=⟨wr,rfl⟩
  by_cases hlt:k<l.length
  ·have d1:decide (k<l.length)=true:=dT hlt
   obtain ⟨m,HM⟩:∃ m,Hid (k-1=m):=⟨_,lH rfl⟩
   have hm:m<l.length:=by have:=HM.out;omega
   obtain ⟨x,hx⟩:∃ x,l[m]?=some x:=⟨_,gE hm⟩
   obtain ⟨y,hy⟩:∃ y,l[k]?=some y:=⟨_,gE hlt⟩
   have hc:=(H.out.below (hb.mono hB)).at_ (by omega);obtain ⟨g,o,rfl,hg,hc⟩:=hc;have c1:=(hc m x hx).1;have c2:=(hc k y hy).1;have r1:=(H.out.below (hb.mono hB)).key x (mG hx);have r2:=(H.out.below (hb.mono hB)).key y (mG hy);have HE:=lH (aI hx hy);have hE:=fun n=>Equal_any x.kc y.kc (wo.drewN n) (r1.drewN n) (r2.drewN n)
   obtain ⟨q,HQ⟩:∃ q,Hid (decide (x.c.key=y.c.key)=q):=⟨_,lH rfl⟩
   rw [HQ.out] at hE;clear hc hx hy r1 r2
   have a1:IntKind.i64.wrap ((k:Int)-1)=(k:Int)-1:=by rw [IntKind.wrap_i64];omega
   have a2:(0:Int)<=(k:Int)-1:=by omega
   have a3:(k:Int)-1<(l.length:Int):=by omega
   have a4:((k:Int)-1).toNat=m:=by have:=HM.out;omega
   have a5:(0:Int)<=(k:Int):=by omega
   have a6:(k:Int)<(l.length:Int):=by omega
   have a7:¬ ((k:Int)-1<0):=by omega
   have a8:(1:Int)<=(k:Int):=by omega
   go_wp2_with fail
   go_quiet (first | (go_at_call 116;exact Calls.quiet_of_same (hE _)))
   have hb2:Below w.heap.size w (wo.drewN nq):=⟨hb.os,hb.tape,hb.output,hb.size,hb.block⟩
   obtain ⟨W,hW⟩:∃ W,wo.drewN nq=W:=⟨_,rfl⟩
   rw [hW] at hb2 ⊢;clear hW hE
   cases q with
   | true =>
    go_wp2;go_ret;refine ⟨retB (Eq.symm ((twT_iff _).2 ⟨m,x.c.key,?_,?_⟩)),hb2⟩
    ·unfold keysX;rw [List.getElem?_map,HE.out.1];rfl
    ·have e:m+1=k:=by have:=HM.out;omega
     unfold keysX;rw [e,List.getElem?_map,HE.out.2,of_decide_eq_true HQ.out];rfl
   | false =>
    go_wp2
    go_roundw
    case rel=>exact ⟨k+1,by omega,by omega,by go_num,fun j a b hj h1 h2=>by
     by_cases e:j+1=k
     ·have e2:j=m:=by have:=HM.out;omega
      subst e2;unfold keysX at h1 h2;rw [List.getElem?_map,HE.out.1] at h1;rw [e,List.getElem?_map,HE.out.2] at h2
      cases h1
      cases h2
      exact of_decide_eq_false HQ.out
     ·exact HNO.out j a b (by omega) h1 h2,hb2⟩
    case measure=>simp [intOf];omega
  ·have d1:decide (k<l.length)=false:=dF hlt;go_wp2;go_ret;refine ⟨retB (Eq.symm ?_),hb⟩;rw [Bool.eq_false_iff];intro ht;obtain ⟨i,a,h1,h2⟩:=(twT_iff _).1 ht
   have hi:i+1<l.length:=by have:=(lS.1 h2).1;simpa [keysX] using this
   exact HNO.out i a a (by omega) h1 h2 rfl
theorem Compare_any {B1 B2:Nat} {A1 A2:Option Addr} {a b:List UInt8} (c1 c2:Nat) (w:World) (h1:Reads w B1 1 A1 a.length (bl a)) (h2:Reads w B2 1 A2 b.length (bl b)) :
 Calls Tryz.prog 175 #[.slice A1 a.length c1,.slice A2 b.length c2] w fun e w'=>e=.returned (.int .i64 (Lib.compareBytes a b))/\w'=w:=by
 go_enter Tryz.func175,Tryz.ntmps175;go_wp2;rw [run_callFunc_extern Tryz.func207 (by kernel_rfl) (by kernel_rfl) (by kernel_rfl) (e:=Extern.BytealgCompare.compare) (by kernel_rfl),run_compare c1 c2 h1 h2];simp only [Result.andThen];rw [Oper.upon_value];go_wp2;go_ret;exact ⟨rfl,rfl⟩
theorem byKey_any {B:Nat} (x y:CX) (w:World) (h1:Reads w B 1 x.ka x.c.key.length (bl x.c.key)) (h2:Reads w B 1 y.ka y.c.key.length (bl y.c.key)) (hB:B<=w.heap.size) :
 Calls Tryz.prog 125 #[x.val,y.val] w fun e w'=>e=.returned (.int .i64 (Lib.compareBytes x.c.key y.c.key))/\Below w.heap.size w w':=by
 unfold CX.val cellV;have hC:=fun W (hW:Below w.heap.size w W)=>Compare_any x.kc y.kc W (h1.below (hW.mono hB)) (h2.below (hW.mono hB))
 obtain ⟨r,HR⟩:∃ r,Hid (Lib.compareBytes x.c.key y.c.key=r):=⟨_,lH rfl⟩
 rw [HR.out] at hC ⊢;have HC:=lH hC;clear hC h1 h2;go_enter Tryz.func125,Tryz.ntmps125
 go_wp2_with (go_at_call 175;refine (HC.out _ ?_).mono ?_;exact ((bR _ _).alloc (nR _) _).alloc (by simp) _;rintro e w2 ⟨rfl,rfl⟩)
 go_ret;exact ⟨rfl,((bR _ _).alloc (nR _) _).alloc (by simp) _⟩
theorem Sorted_any {B:Nat} {A:Option Addr} {l:List CX} (c:Nat) (w:World) (h:CellsAt w B A l) (hl:l.length<=3000000) (hB:B<=w.heap.size) :
 Calls Tryz.prog 124 #[.slice A l.length c,.func (.func 125) #[] #[]] w fun e w'=>e=.returned (.bool (upT (keysX l)))/\Below w.heap.size w w':=by
 have H:=lH h;clear h
 have a0:IntKind.i64.wrap ((l.length:Int)-1)=(l.length:Int)-1:=by rw [IntKind.wrap_i64];omega
 rcases Nat.eq_zero_or_pos l.length with h0 | h0
 ·have e0:upT (keysX l)=true:=by
   obtain rfl:=List.eq_nil_of_length_eq_zero h0;rfl
  rw [e0,h0];go_enter Tryz.func124,Tryz.ntmps124;go_wp2
  go_loopw [5] (fun i wr=>i=.int .i64 (-1)/\wr=w) (fun i _=>0)
  case atStart=>exact ⟨rfl,rfl⟩
  case round =>
   obtain ⟨rfl,rfl⟩:=hrel;go_wp2;go_ret;exact ⟨rfl,bR _ _⟩
 obtain ⟨t,HT⟩:∃ t,Hid (l.length-1=t):=⟨_,lH rfl⟩
 have a1:(l.length:Int)-1=(t:Int):=by have:=HT.out;omega
 go_enter Tryz.func124,Tryz.ntmps124;go_wp2
 go_loopw [5] (fun i wr=>∃ k:Nat,k<l.length/\i=.int .i64 k/\(∀ j a b,k<j+1->(keysX l)[j]?=some a->(keysX l)[j+1]?=some b->¬ b<a)/\Below w.heap.size w wr) (fun i _=>(intOf i).toNat)
 case atStart =>
  exact ⟨t,by have:=HT.out;omega,rfl,fun j a b hj h1 h2=>by have:=(lS.1 h2).1;simp [keysX] at this;have:=HT.out;omega,bR _ _⟩
 case round =>
  obtain ⟨k,hk,rfl,hno,hb⟩:=hrel;have HNO:=lH hno;clear hno
  obtain ⟨wo,rfl⟩:∃ wo,wo=wr:=⟨wr,rfl⟩
  by_cases hlt:0<k
  ·have d1:decide (0<k)=true:=dT hlt;have d2:decide ((0:Int)<(k:Int))=true:=dT (by omega)
   obtain ⟨m,HM⟩:∃ m,Hid (k-1=m):=⟨_,lH rfl⟩
   have hm:m<l.length:=by have:=HM.out;omega
   obtain ⟨y,hy⟩:∃ y,l[m]?=some y:=⟨_,gE hm⟩
   obtain ⟨x,hx⟩:∃ x,l[k]?=some x:=⟨_,gE hk⟩
   have hc:=(H.out.below (hb.mono hB)).at_ (by omega);obtain ⟨g,o,rfl,hg,hc⟩:=hc
   have kS:(fun W0=>W0.cell? ⟨g,o+k*5,none⟩=some (.slice x.ka x.c.key.length x.kc)/\W0.cell? ⟨g,o+k*5+1,none⟩=some (.int .i64 x.c.size)/\W0.cell? ⟨g,o+k*5+2,none⟩=some (.slice x.va x.c.val.length x.vc)/\W0.cell? ⟨g,o+k*5+3,none⟩=some (.int .u32 (x.c.over:Nat))/\W0.cell? ⟨g,o+k*5+4,none⟩=some (.int .u32 (x.c.kid:Nat))/\W0.cell? ⟨g,o+m*5,none⟩=some (.slice y.ka y.c.key.length y.kc)/\W0.cell? ⟨g,o+m*5+1,none⟩=some (.int .i64 y.c.size)/\W0.cell? ⟨g,o+m*5+2,none⟩=some (.slice y.va y.c.val.length y.vc)/\W0.cell? ⟨g,o+m*5+3,none⟩=some (.int .u32 (y.c.over:Nat))/\W0.cell? ⟨g,o+m*5+4,none⟩=some (.int .u32 (y.c.kid:Nat))) wo.drew:=by
    obtain ⟨c1,c2,c3,c4,c5⟩:=hc k x hx;obtain ⟨c6,c7,c8,c9,c10⟩:=hc m y hy;exact ⟨c1,c2,c3,c4,c5,c6,c7,c8,c9,c10⟩
   have r1:=(H.out.below (hb.mono hB)).key x (mG hx);have r2:=(H.out.below (hb.mono hB)).key y (mG hy);have HE:=lH (aI hx hy);have hE:=byKey_any x y wo.drew r1.drew r2.drew (by show B<=wo.heap.size;exact nT hB hb.size);have hlv:=cmp_lt x.c.key y.c.key
   obtain ⟨r,HR⟩:∃ r,Hid (Lib.compareBytes x.c.key y.c.key=r):=⟨_,lH rfl⟩
   rw [HR.out] at hE hlv;unfold CX.val cellV at hE;have HLV:=lH hlv;clear hc hx hy r1 r2 hlv
   have a1:IntKind.i64.wrap ((k:Int)-1)=(k:Int)-1:=by rw [IntKind.wrap_i64];omega
   have a2:(0:Int)<=(k:Int)-1:=by omega
   have a3:(k:Int)-1<(l.length:Int):=by omega
   have a4:((k:Int)-1).toNat=m:=by have:=HM.out;omega
   have a5:(0:Int)<=(k:Int):=by omega
   have a6:(k:Int)<(l.length:Int):=by omega
   have a7:¬ ((k:Int)-1<0):=by omega
   have a8:(1:Int)<=(k:Int):=by omega
   go_wp2;refine regionE 10 (fun W0=>W0.cell? ⟨g,o+k*5,none⟩=some (.slice x.ka x.c.key.length x.kc)/\W0.cell? ⟨g,o+k*5+1,none⟩=some (.int .i64 x.c.size)/\W0.cell? ⟨g,o+k*5+2,none⟩=some (.slice x.va x.c.val.length x.vc)/\W0.cell? ⟨g,o+k*5+3,none⟩=some (.int .u32 (x.c.over:Nat))/\W0.cell? ⟨g,o+k*5+4,none⟩=some (.int .u32 (x.c.kid:Nat))/\W0.cell? ⟨g,o+m*5,none⟩=some (.slice y.ka y.c.key.length y.kc)/\W0.cell? ⟨g,o+m*5+1,none⟩=some (.int .i64 y.c.size)/\W0.cell? ⟨g,o+m*5+2,none⟩=some (.slice y.va y.c.val.length y.vc)/\W0.cell? ⟨g,o+m*5+3,none⟩=some (.int .u32 (y.c.over:Nat))/\W0.cell? ⟨g,o+m*5+4,none⟩=some (.int .u32 (y.c.kid:Nat))) (by kernel_rfl) (by kernel_rfl) (by kernel_rfl) (by kernel_rfl) (by kernel_rfl) (kS) (fun hHeld hTl=>?_);refine tkT 0 (v:=?_) hTl hHeld rfl ?_ (fun hTl=>?_);rotate_left
   ·intro w hSw;(try dsimp only at hSw);go_simp;all_goals with_reducible rfl
   try simp only [pT]
   refine tkT 1 (v:=?_) hTl hHeld rfl ?_ (fun hTl=>?_);rotate_left
   ·intro w hSw;(try dsimp only at hSw);go_simp;all_goals with_reducible rfl
   try simp only [pT]
   refine tkT 2 (v:=?_) hTl hHeld rfl ?_ (fun hTl=>?_);rotate_left
   ·intro w hSw;(try dsimp only at hSw);go_simp;all_goals with_reducible rfl
   try simp only [pT]
   refine tkT 3 (v:=?_) hTl hHeld rfl ?_ (fun hTl=>?_);rotate_left
   ·intro w hSw;(try dsimp only at hSw);go_simp;all_goals with_reducible rfl
   try simp only [pT]
   refine tkT 4 (v:=?_) hTl hHeld rfl ?_ (fun hTl=>?_);rotate_left
   ·intro w hSw;(try dsimp only at hSw);go_simp;all_goals with_reducible rfl
   try simp only [pT]
   refine tkT 5 (v:=?_) hTl hHeld rfl ?_ (fun hTl=>?_);rotate_left
   ·intro w hSw;(try dsimp only at hSw);go_simp;all_goals with_reducible rfl
   try simp only [pT]
   refine tkT 6 (v:=?_) hTl hHeld rfl ?_ (fun hTl=>?_);rotate_left
   ·intro w hSw;(try dsimp only at hSw);go_simp;all_goals with_reducible rfl
   try simp only [pT]
   refine tkT 7 (v:=?_) hTl hHeld rfl ?_ (fun hTl=>?_);rotate_left
   ·intro w hSw;(try dsimp only at hSw);go_simp;all_goals with_reducible rfl
   try simp only [pT]
   refine tkT 8 (v:=?_) hTl hHeld rfl ?_ (fun hTl=>?_);rotate_left
   ·intro w hSw;(try dsimp only at hSw);go_simp;all_goals with_reducible rfl
   try simp only [pT]
   refine tkT 9 (v:=?_) hTl hHeld rfl ?_ (fun hTl=>?_);rotate_left
   ·intro w hSw;(try dsimp only at hSw);go_simp;all_goals with_reducible rfl
   try simp only [pT]
   clear hTl;refine oneE 10 rfl (by kernel_rfl) (fun K hK=>?_);refine sC rfl 125 _ (by go_simp) hE ?_;rintro e w5 ⟨rfl,hb5⟩;refine ⟨_,rfl,?_⟩;refine hK.out _ _ (fun h=>absurd h (by decide)) ?_;clear hK K
   try simp only [pT]
   refine oneE 11 rfl (by kernel_rfl) (fun K hK=>?_);go_simp;refine hK.out _ _ (fun h=>absurd h (by decide)) ?_;clear hK K
   try simp only [pT]
   refine doneE (by kernel_rfl) ?_ _;have hb2:Below w.heap.size w w5:=hb.drew.trans (hb5.mono hb.drew.size);clear hE;by_cases hr:r<0
   ·have d3:decide (r<0)=true:=dT hr;go_wp2;go_ret;refine ⟨retB (Eq.symm ?_),hb2⟩;rw [Bool.eq_false_iff];intro hu;refine (upT_iff _).1 hu m y.c.key x.c.key ?_ ?_ (HLV.out.1 hr)
    ·unfold keysX;rw [List.getElem?_map,HE.out.2];rfl
    ·have e:m+1=k:=by have:=HM.out;omega
     unfold keysX;rw [e,List.getElem?_map,HE.out.1];rfl
   ·have d3:decide (r<0)=false:=dF hr;go_wp2
    go_roundw
    case rel=>exact ⟨m,by omega,by congr 1;have:=HM.out;omega,fun j a b hj h1 h2=>by
     by_cases e:j=m
     ·subst e
      have e2:j+1=k:=by have:=HM.out;omega
      unfold keysX at h1 h2;rw [List.getElem?_map,HE.out.2] at h1;rw [e2,List.getElem?_map,HE.out.1] at h2
      cases h1
      cases h2
      exact fun hh=>hr (HLV.out.2 hh)
     ·exact HNO.out j a b (by have:=HM.out;omega) h1 h2,hb2⟩
    case measure=>simp [intOf];have:=HM.out;omega
  ·have d1:decide (0<k)=false:=dF hlt;have d2:decide ((0:Int)<(k:Int))=false:=dF (by omega);go_wp2;go_ret;exact ⟨retB (Eq.symm ((upT_iff _).2 fun j a b h1 h2=>HNO.out j a b (by omega) h1 h2)),hb⟩
def cOK (leaf:Bool) (c:PC):Bool:=if leaf then leafOK c else innerOK c
def cB (leaf:Bool) (c:PC):List UInt8:=if leaf then leafB c else innerB c
def cputF (leaf:Bool):Nat:=if leaf then 170 else 172
def cgetF (leaf:Bool):Nat:=if leaf then 171 else 173
def coderCs (leaf:Bool):Array Value:=#[.func (.func (cputF leaf)) #[] #[],.func (.func (cgetF leaf)) #[] #[]]
theorem PutC_any {B:Nat} (leaf:Bool) (x:CX) (w:World) (hB:B<=w.heap.size) (hk:Reads w B 1 x.ka x.c.key.length (bl x.c.key)) (hv:Reads w B 1 x.va x.c.val.length (bl x.c.val)) (hf:x.c.fit) :
 Calls Tryz.prog (cputF leaf) #[x.val] w fun e w'=>∃ A n c,e=.returned (.tuple #[.slice A n c,.int .i64 (if cOK leaf x.c=true then 0 else 70)])/\(cOK leaf x.c=true->n=(cB leaf x.c).length/\w'.ownsRow w.heap.size 5 1 (.slice A n c) (cB leaf x.c).length (bl (cB leaf x.c)))/\Below w.heap.size w w':=by
 have fin:∀ (b:List UInt8) (f:Nat),cB leaf x.c=b->cOK leaf x.c=true->(Calls Tryz.prog f #[x.val] w fun e w'=>∃ v,e=.returned (.tuple #[v,.int .i64 0])/\w'.ownsRow w.heap.size 5 1 v b.length (bl b)/\Below w.heap.size w w') ->
  Calls Tryz.prog f #[x.val] w fun e w'=>∃ A n c,e=.returned (.tuple #[.slice A n c,.int .i64 (if cOK leaf x.c=true then 0 else 70)])/\(cOK leaf x.c=true->n=(cB leaf x.c).length/\w'.ownsRow w.heap.size 5 1 (.slice A n c) (cB leaf x.c).length (bl (cB leaf x.c)))/\Below w.heap.size w w':=by
  rintro b f rfl hok h;refine h.mono ?_;rintro e w' ⟨v,rfl,ho,hb⟩;obtain ⟨A,c,rfl⟩:=own_formS ho;rw [if_pos hok];exact ⟨A,_,c,rfl,fun _=>⟨rfl,ho⟩,hb⟩
 have nof:∀ (f:Nat),cOK leaf x.c=false->(Calls Tryz.prog f #[x.val] w fun e w'=>e=.returned (.tuple #[.slice none 0 0,.int .i64 70])/\Below w.heap.size w w') ->
  Calls Tryz.prog f #[x.val] w fun e w'=>∃ A n c,e=.returned (.tuple #[.slice A n c,.int .i64 (if cOK leaf x.c=true then 0 else 70)])/\(cOK leaf x.c=true->n=(cB leaf x.c).length/\w'.ownsRow w.heap.size 5 1 (.slice A n c) (cB leaf x.c).length (bl (cB leaf x.c)))/\Below w.heap.size w w':=by
  intro f hno h;refine h.mono ?_;rintro e w' ⟨rfl,hb⟩;rw [hno];exact ⟨none,0,0,rfl,fun hh=>(by cases hh),hb⟩
 cases leaf with
 | true =>
  cases hc:leafT x.c.key.length x.c.size x.c.val.length x.c.over x.c.kid with
  | false=>exact nof 170 hc (PutLeaf_no x.ka _ x.kc x.c.size x.va _ x.vc x.c.over x.c.kid w hc)
  | true =>
   by_cases hs:x.c.size<=40
   ·exact fin _ 170 (by show leafB x.c=_;unfold leafB;rw [if_pos hs]) hc (PutLeaf_val x.ka x.kc x.c.key x.c.size x.va x.vc x.c.val x.c.over x.c.kid w hB hk hv hc hf.1 hs)
   ·exact fin _ 170 (by show leafB x.c=_;unfold leafB;rw [if_neg hs]) hc (PutLeaf_over x.ka x.kc x.c.key x.c.size x.va x.vc x.c.val x.c.over x.c.kid w hB hk hv hc hf.1 (by omega))
 | false =>
  cases hc:innerT x.c.key.length x.c.size x.c.val.length x.c.over x.c.kid with
  | false=>exact nof 172 hc (PutInner_no x.ka _ x.kc x.c.size x.va _ x.vc x.c.over x.c.kid w hc)
  | true=>exact fin _ 172 rfl hc (PutInner_ok x.ka x.kc x.c.key x.c.size x.va _ x.vc x.c.over x.c.kid w hB hk hc hf.2)
theorem coderOf_any (kind:Int) (w:World):Calls Tryz.prog 119 #[.int .i64 kind] w fun e w'=>e=.returned (.agg (coderCs (decide (kind=3))))/\Below w.heap.size w w':=by
 by_cases h:kind=3
 ·subst h;go_enter Tryz.func119,Tryz.ntmps119;go_wp2;refine bodyPost_ret (results_cell_row rfl _ _ w.heap.size 211 (coderCs true) (0,0) _ rfl (heap_alloc_new _ _) Tryz.underlying211 rfl (by kernel_rfl)) rfl ?_;exact ⟨rfl,((bR _ _).alloc (nR _) _)⟩
 ·have k3:(kind==3)=false:=by simpa using h
  rw [dF h];go_enter Tryz.func119,Tryz.ntmps119;go_wp2;refine bodyPost_ret (results_cell_row rfl _ _ w.heap.size 211 (coderCs false) (0,0) _ rfl (heap_alloc_new _ _) Tryz.underlying211 rfl (by kernel_rfl)) rfl ?_;exact ⟨rfl,((bR _ _).alloc (nR _) _)⟩
theorem isCell_any {B:Nat} (leaf:Bool) (x:CX) (w:World) (hB:B<=w.heap.size) (hk:Reads w B 1 x.ka x.c.key.length (bl x.c.key)) (hv:Reads w B 1 x.va x.c.val.length (bl x.c.val)) (hf:x.c.fit) :
 Calls Tryz.prog 121 #[.agg (coderCs leaf),x.val] w fun e w'=>e=.returned (.bool (cOK leaf x.c))/\Below w.heap.size w w':=by
 have hC:=fun W (hW:Below w.heap.size w W)=>PutC_any leaf x W (nT hB hW.size) (hk.below (hW.mono hB)) (hv.below (hW.mono hB)) hf
 obtain ⟨q,HQ⟩:∃ q,Hid (cOK leaf x.c=q):=⟨_,lH rfl⟩
 rw [HQ.out] at hC ⊢;unfold CX.val cellV coderCs at *;have HC:=lH hC;clear hC hk hv;have hb2:Below w.heap.size w ((w.alloc (.cells #[.func (.func (cputF leaf)) #[] #[],.func (.func (cgetF leaf)) #[] #[]] 211)).alloc (.cells #[.slice x.ka x.c.key.length x.kc,.int .i64 x.c.size,.slice x.va x.c.val.length x.vc,.int .u32 (x.c.over:Nat),.int .u32 (x.c.kid:Nat)] 113)):=((bR _ _).alloc (nR _) _).alloc (by simp) _
 cases q <;> cases leaf
 all_goals
  simp only [cputF,cgetF,if_true,Bool.false_eq_true,if_false] at HC hb2 ⊢;go_enter Tryz.func121,Tryz.ntmps121
  go_wp2_with (first
   | (go_at_call 170;refine (HC.out _ hb2).mono ?_;rintro e w3 ⟨A,n,c,rfl,_,hb3⟩)
   | (go_at_call 172;refine (HC.out _ hb2).mono ?_;rintro e w3 ⟨A,n,c,rfl,_,hb3⟩))
  go_ret;exact ⟨rfl,hb2.trans (hb3.mono hb2.size)⟩
theorem notCell_any {B g:Nat} (leaf:Bool) (x:CX) (w:World) (hB:B<=w.heap.size) (hk:Reads w B 1 x.ka x.c.key.length (bl x.c.key)) (hv:Reads w B 1 x.va x.c.val.length (bl x.c.val)) (hf:x.c.fit) (hg:Blk w g 211 (coderCs leaf)) :
 Calls Tryz.prog 120 #[x.val,.pointer (some ⟨g,0,none⟩)] w fun e w'=>e=.returned (.bool (!cOK leaf x.c))/\Below w.heap.size w w':=by
 have hb1:Below w.heap.size w (w.alloc (.cells #[.slice x.ka x.c.key.length x.kc,.int .i64 x.c.size,.slice x.va x.c.val.length x.vc,.int .u32 (x.c.over:Nat),.int .u32 (x.c.kid:Nat)] 113)):=(bR _ _).alloc (nR _) _;have hC:=isCell_any leaf x _ (nT hB hb1.size) (hk.below (hb1.mono hB)) (hv.below (hb1.mono hB)) hf;have hg1:=hg.below hb1 hg.lt
 obtain ⟨q,HQ⟩:∃ q,Hid (cOK leaf x.c=q):=⟨_,lH rfl⟩
 rw [HQ.out] at hC ⊢;unfold CX.val cellV at *;have HC:=lH hC;have HG:=lH hg1;clear hC hk hv hg hg1;go_enter Tryz.func120,Tryz.ntmps120
 go_wp2_with (first
  | (refine wpList_load_row rfl 211 (.tmp 1) rfl g rfl _ _ _ _ HG.out Tryz.underlying211 rfl (by kernel_rfl) ?_)
  | (go_at_call 121;refine HC.out.mono ?_;rintro e w3 ⟨rfl,hb3⟩))
 go_ret;exact ⟨rfl,hb1.trans (hb3.mono hb1.size)⟩
theorem IndexCell_any {B g:Nat} {A:Option Addr} {l:List CX} (leaf:Bool) (c:Nat) (w:World) (h:CellsAt w B A l) (hl:l.length<=3000000) (hB:B<=w.heap.size) (hf:∀ x∈l,x.c.fit) (hg:Blk w g 211 (coderCs leaf)) :
 Calls Tryz.prog 174 #[.slice A l.length c,.func (.func 120) #[] #[.pointer (some ⟨g,0,none⟩)]] w fun e w'=>∃ r:Int,e=.returned (.int .i64 r)/\decide (0<=r)=!(l.all fun x=>cOK leaf x.c)/\Below w.heap.size w w':=by
 have H:=lH (aI h (aI hf hg));clear h hf hg;go_enter Tryz.func174,Tryz.ntmps174;go_wp2
 go_loopw [8] (fun i wr=>∃ k:Nat,k<=l.length/\i=.int .i64 k/\(∀ j y,j<k->l[j]?=some y->cOK leaf y.c=true)/\Below w.heap.size w wr) (fun i _=>l.length-(intOf i).toNat)
 case atStart=>exact ⟨0,zL _,rfl,fun j y hj=>by omega,bR _ _⟩
 case round =>
  obtain ⟨k,hk,rfl,hno,hb⟩:=hrel;have HNO:=lH hno;clear hno
  obtain ⟨wo,rfl⟩:∃ wo,wo=wr:=⟨wr,rfl⟩
  by_cases hlt:k<l.length
  ·have d1:decide (k<l.length)=true:=dT hlt
   obtain ⟨x,hx⟩:∃ x,l[k]?=some x:=⟨_,gE hlt⟩
   have hm:=mG hx;have hC:=H.out.1.below (hb.mono hB);obtain ⟨p,o,rfl,hp,hc⟩:=hC.at_ (by omega);obtain ⟨c1,c2,c3,c4,c5⟩:=hc k x hx;have hI:=notCell_any leaf x wo (nT hB hb.size) (hC.key x hm) (hC.val x hm) (H.out.2.1 x hm) (H.out.2.2.below hb H.out.2.2.lt)
   have i0:(0:Int)<=(k:Int):=by omega
   have i1:(k:Int)<(l.length:Int):=by omega
   obtain ⟨q,HQ⟩:∃ q,Hid (cOK leaf x.c=q):=⟨_,lH rfl⟩
   rw [HQ.out] at hI;have HX:=lH hx;unfold CX.val cellV at hI;clear hC hc hx hm
   cases q with
   | false =>
    go_wp2_with (go_at_call 120;refine hI.mono ?_;rintro e w9 ⟨rfl,hb9⟩)
    go_ret;refine ⟨(k:Int),rfl,?_,hb.trans (hb9.mono hb.size)⟩
    have e1:(l.all fun x=>cOK leaf x.c)=false:=by
     rw [Bool.eq_false_iff];intro ht;rw [List.all_eq_true] at ht;have:=ht x (mG HX.out);rw [HQ.out] at this
     cases this
    rw [e1,dT i0];rfl
   | true =>
    go_wp2_with (go_at_call 120;refine hI.mono ?_;rintro e w9 ⟨rfl,hb9⟩)
    go_roundw
    case rel=>exact ⟨k+1,by omega,by go_num,fun j z hj hz=>by
     by_cases e:j=k
     ·subst e;rw [HX.out] at hz;cases hz;exact HQ.out
     ·exact HNO.out j z (by omega) hz,hb.trans (hb9.mono hb.size)⟩
    case measure=>simp [intOf];omega
  ·have d1:decide (k<l.length)=false:=dF hlt;go_wp2;go_ret;refine ⟨-1,rfl,?_,hb⟩
   have e1:(l.all fun x=>cOK leaf x.c)=true:=by
    rw [List.all_eq_true];intro x hx;obtain ⟨j,hj⟩:=List.getElem?_of_mem hx;have:=(lS.1 hj).1;exact HNO.out j x (by omega) hj
   rw [e1];rfl
theorem HasBad_any {B g:Nat} {A:Option Addr} {l:List CX} (leaf:Bool) (c:Nat) (w:World) (h:CellsAt w B A l) (hl:l.length<=3000000) (hB:B<=w.heap.size) (hf:∀ x∈l,x.c.fit) (hg:Blk w g 211 (coderCs leaf)) :
 Calls Tryz.prog 122 #[.slice A l.length c,.func (.func 120) #[] #[.pointer (some ⟨g,0,none⟩)]] w fun e w'=>e=.returned (.bool (!(l.all fun x=>cOK leaf x.c)))/\Below w.heap.size w w':=by
 have hI:=IndexCell_any leaf c w h hl hB hf hg;clear h hf hg;go_enter Tryz.func122,Tryz.ntmps122
 go_wp2_with (go_at_call 174;refine hI.mono ?_;rintro e w9 ⟨r,rfl,hr,hb9⟩)
 go_ret;exact ⟨rfl,hb9⟩
structure NX where
 kind:Int
 lsn:Nat
 ca:Option Addr
 cc:Nat
 l:List CX
 next:Nat
 da:Option Addr
 dc:Nat
 data:List UInt8
 root:Nat
 pages:Nat
 free:Nat
 entries:Nat
def NX.n (x:NX):PN:=⟨x.kind,x.lsn,x.l.map CX.c,x.next,x.data,x.root,x.pages,x.free,x.entries⟩
def NX.val (x:NX):Value:=nodeV x.kind x.lsn x.ca x.l.length x.cc x.next x.da x.data.length x.dc x.root x.pages x.free x.entries
def NX.cells (x:NX):Array Value:=#[.int .i64 x.kind,.int .u64 (x.lsn:Nat),.slice x.ca x.l.length x.cc,.int .u32 (x.next:Nat),.slice x.da x.data.length x.dc,.int .u32 (x.root:Nat),.int .u32 (x.pages:Nat),.int .u32 (x.free:Nat),.int .u64 (x.entries:Nat)]
structure NodeAt (w:World) (B:Nat) (x:NX):Prop where
 cells:CellsAt w B x.ca x.l
 data:Reads w B 1 x.da x.data.length (bl x.data)
 fit:∀ y∈x.l,y.c.fit
 many:x.l.length<=3000000
 long:x.data.length<=3000000
theorem NodeAt.below {w w':World} {B:Nat} {x:NX} (h:NodeAt w B x) (hb:Below B w w'):NodeAt w' B x:=⟨h.cells.below hb,h.data.below hb,h.fit,h.many,h.long⟩
theorem NodeAt.mono {w:World} {B B':Nat} {x:NX} (h:NodeAt w B x) (hb:B<=B'):NodeAt w B' x:=⟨h.cells.mono hb,rM h.data hb,h.fit,h.many,h.long⟩
theorem plainT_n (x:NX):plainT x.kind x.l.length x.next x.data.length x.root x.pages x.free x.entries=plainOK x.n:=by
 unfold plainT plainOK NX.n;simp
theorem cellsOK_n (x:NX) (leaf:Bool):(x.l.all fun y=>cOK leaf y.c)=(if leaf=true then x.n.cells.all leafOK else x.n.cells.all innerOK):=by
 unfold NX.n;simp only [List.all_map]
 cases leaf <;> rfl
theorem keysX_n (x:NX):x.n.cells.map PC.key=keysX x.l:=by
 unfold NX.n keysX;rw [List.map_map];rfl
theorem nodeOK_leaf (x:NX) (h:x.kind=3):nodeOK x.n=(plainOK x.n && (((x.l.all fun y=>cOK true y.c) && !twT (keysX x.l)) && upT (keysX x.l))):=by
 unfold nodeOK;rw [show x.n.kind=3 from h,if_neg (by decide),if_neg (by decide),if_neg (by decide),if_neg (by decide),if_pos rfl,rise_two,keysX_n,cellsOK_n,if_pos rfl,Bool.and_assoc]
theorem nodeOK_inner (x:NX) (h:x.kind=2):nodeOK x.n=(plainOK x.n && (decide (x.l.length≠0) && (((x.l.all fun y=>cOK false y.c) && !twT (keysX x.l)) && upT (keysX x.l)))):=by
 unfold nodeOK;rw [show x.n.kind=2 from h,if_neg (by decide),if_neg (by decide),if_neg (by decide),if_pos rfl,rise_two,keysX_n,cellsOK_n,if_neg (by decide),Bool.and_assoc];unfold NX.n;rw [List.length_map]
theorem isNode_leaf {B:Nat} (x:NX) (w:World) (h:NodeAt w B x) (hB:B<=w.heap.size) (hk:x.kind=3) :
 Calls Tryz.prog 92 #[x.val] w fun e w'=>e=.returned (.bool (nodeOK x.n))/\Below w.heap.size w w':=by
 obtain ⟨w1,hw1⟩:∃ w1,w1=w.alloc (.cells x.cells 52):=⟨_,rfl⟩
 have hb1:Below w.heap.size w w1:=by rw [hw1];exact (bR _ w).alloc (nR _) _
 have hN:Blk w1 w.heap.size 52 x.cells:=by rw [hw1];exact Blk.new _ _ _
 have hP:=isPlain_any x.kind x.lsn x.ca x.l.length x.cc x.next x.da x.data.length x.dc x.root x.pages x.free x.entries w1;rw [plainT_n] at hP;rw [nodeOK_leaf x hk]
 have HNW:Hid (∀ W,Below w1.heap.size w1 W->W.cell? ⟨w.heap.size,0,none⟩=some (.int .i64 3)/\W.cell? ⟨w.heap.size,2,none⟩=some (.slice x.ca x.l.length x.cc)):=lH fun W hW=>⟨((hN.below hW hN.lt).cell 0).trans (by rw [<-hk];rfl),(hN.below hW hN.lt).cell 2⟩
 have HHas:Hid (∀ W,Below w.heap.size w W->∀ g,Blk W g 211 (coderCs true)->_):=lH fun W hW g hg=>HasBad_any true x.cc W (h.cells.below (hW.mono hB)) h.many (nT hB hW.size) h.fit hg;have HTw:Hid (∀ W,Below w.heap.size w W->_):=lH fun W hW=>hasTwins_any x.cc W (h.cells.below (hW.mono hB)) h.many (nT hB hW.size);have HSo:Hid (∀ W,Below w.heap.size w W->_):=lH fun W hW=>Sorted_any x.cc W (h.cells.below (hW.mono hB)) h.many (nT hB hW.size);have HCo:Hid (∀ W,_):=lH fun W=>coderOf_any 3 W
 obtain ⟨p,KP⟩:∃ q,Hid (plainOK x.n=q):=⟨_,lH rfl⟩
 obtain ⟨q1,K1⟩:∃ q,Hid ((x.l.all fun y=>cOK true y.c)=q):=⟨_,lH rfl⟩
 obtain ⟨q2,K2⟩:∃ q,Hid (twT (keysX x.l)=q):=⟨_,lH rfl⟩
 obtain ⟨q3,K3⟩:∃ q,Hid (upT (keysX x.l)=q):=⟨_,lH rfl⟩
 rw [KP.out] at hP ⊢;rw [K1.out] at HHas ⊢;rw [K2.out] at HTw ⊢;rw [K3.out] at HSo ⊢;unfold NX.val nodeV NX.cells at *;rw [hk] at *;have HW1:=lH hw1;have HP:=lH hP;have HNB:=lH hN;clear hP h hN hw1 hk KP K1 K2 K3
 cases p with
 | false =>
  go_enter Tryz.func92,Tryz.ntmps92
  go_wp2_with (first
   | (rw [<-HW1.out];refine wpList_load_row rfl 52 (.tmp 1) rfl w.heap.size rfl _ _ _ _ HNB.out Tryz.underlying52 rfl (by kernel_rfl) ?_)
   | (go_at_call 117;refine HP.out.mono ?_;rintro e w3 ⟨rfl,hb3⟩))
  go_ret;exact ⟨rfl,hb1.trans (hb3.mono hb1.size)⟩
 | true =>
  cases q1 <;> cases q2 <;> cases q3
  all_goals
   go_enter Tryz.func92,Tryz.ntmps92
   go_wp2_with (first
    | (rw [<-HW1.out];refine wpList_load_row rfl 52 (.tmp 1) rfl w.heap.size rfl _ _ _ _ HNB.out Tryz.underlying52 rfl (by kernel_rfl) ?_)
    | (go_at_call 117;refine HP.out.mono ?_;rintro e w3 ⟨rfl,hb3⟩;obtain ⟨f0,f2⟩:=HNW.out _ hb3)
    | (go_at_call 119;refine (HCo.out _).mono ?_;rintro e w4 ⟨rfl,hb4⟩;have hb4a:Below w1.heap.size w1 (w4.alloc (.cells (coderCs true) 211)):=(hb3.trans (hb4.mono hb3.size)).alloc (nT hb3.size hb4.size) _;obtain ⟨f0a,f2a⟩:=HNW.out _ hb4a;unfold coderCs at f0a f2a;simp only [cputF,cgetF,if_true,decide_true,coderCs] at f0a f2a ⊢)
    | (go_at_call 122;refine (HHas.out _ ?_ _ ?_).mono ?_;exact hb1.trans (hb4a.mono hb1.size);exact Blk.new _ _ _;rintro e w5 ⟨rfl,hb5⟩;have hF5:=hb1.trans ((hb4a.trans (hb5.mono hb4a.size)).mono hb1.size);obtain ⟨f0b,f2b⟩:=HNW.out w5 (hb4a.trans (hb5.mono hb4a.size)))
    | (go_at_call 123;refine (HTw.out _ ?_).mono ?_;exact hF5;rintro e w6 ⟨rfl,hb6⟩;have hF6:=hF5.trans (hb6.mono hF5.size);obtain ⟨f0c,f2c⟩:=HNW.out w6 ((hb4a.trans (hb5.mono hb4a.size)).trans (hb6.mono (nT hb4a.size hb5.size))))
    | (go_at_call 124;refine (HSo.out _ ?_).mono ?_;exact hF6;rintro e w7 ⟨rfl,hb7⟩;have hF7:=hF6.trans (hb7.mono hF6.size)))
   go_ret
   first
    | exact ⟨rfl,hF7⟩
    | exact ⟨rfl,hF6⟩
    | exact ⟨rfl,hF5⟩
theorem isNode_inner {B:Nat} (x:NX) (w:World) (h:NodeAt w B x) (hB:B<=w.heap.size) (hk:x.kind=2) :
 Calls Tryz.prog 92 #[x.val] w fun e w'=>e=.returned (.bool (nodeOK x.n))/\Below w.heap.size w w':=by
 obtain ⟨w1,hw1⟩:∃ w1,w1=w.alloc (.cells x.cells 52):=⟨_,rfl⟩
 have hb1:Below w.heap.size w w1:=by rw [hw1];exact (bR _ w).alloc (nR _) _
 have hN:Blk w1 w.heap.size 52 x.cells:=by rw [hw1];exact Blk.new _ _ _
 have hP:=isPlain_any x.kind x.lsn x.ca x.l.length x.cc x.next x.da x.data.length x.dc x.root x.pages x.free x.entries w1;rw [plainT_n] at hP;rw [nodeOK_inner x hk]
 have HNW:Hid (∀ W,Below w1.heap.size w1 W->W.cell? ⟨w.heap.size,0,none⟩=some (.int .i64 2)/\W.cell? ⟨w.heap.size,2,none⟩=some (.slice x.ca x.l.length x.cc)):=lH fun W hW=>⟨((hN.below hW hN.lt).cell 0).trans (by rw [<-hk];rfl),(hN.below hW hN.lt).cell 2⟩
 have HHas:Hid (∀ W,Below w.heap.size w W->∀ g,Blk W g 211 (coderCs false)->_):=lH fun W hW g hg=>HasBad_any false x.cc W (h.cells.below (hW.mono hB)) h.many (nT hB hW.size) h.fit hg;have HTw:Hid (∀ W,Below w.heap.size w W->_):=lH fun W hW=>hasTwins_any x.cc W (h.cells.below (hW.mono hB)) h.many (nT hB hW.size);have HSo:Hid (∀ W,Below w.heap.size w W->_):=lH fun W hW=>Sorted_any x.cc W (h.cells.below (hW.mono hB)) h.many (nT hB hW.size);have HCo:Hid (∀ W,_):=lH fun W=>coderOf_any 2 W
 obtain ⟨q0,K0⟩:∃ q,Hid (decide (x.l.length≠0)=q):=⟨_,lH rfl⟩
 have e0:((x.l.length:Int)==0)=!q0:=by rw [<-K0.out,Bool.eq_iff_iff];simp
 obtain ⟨p,KP⟩:∃ q,Hid (plainOK x.n=q):=⟨_,lH rfl⟩
 obtain ⟨q1,K1⟩:∃ q,Hid ((x.l.all fun y=>cOK false y.c)=q):=⟨_,lH rfl⟩
 obtain ⟨q2,K2⟩:∃ q,Hid (twT (keysX x.l)=q):=⟨_,lH rfl⟩
 obtain ⟨q3,K3⟩:∃ q,Hid (upT (keysX x.l)=q):=⟨_,lH rfl⟩
 rw [KP.out] at hP ⊢;rw [K0.out];rw [K1.out] at HHas ⊢;rw [K2.out] at HTw ⊢;rw [K3.out] at HSo ⊢;unfold NX.val nodeV NX.cells at *;rw [hk] at *;have HW1:=lH hw1;have HP:=lH hP;have HNB:=lH hN;clear hP h hN hw1 hk K0 KP K1 K2 K3
 cases p with
 | false =>
  go_enter Tryz.func92,Tryz.ntmps92
  go_wp2_with (first
   | (rw [<-HW1.out];refine wpList_load_row rfl 52 (.tmp 1) rfl w.heap.size rfl _ _ _ _ HNB.out Tryz.underlying52 rfl (by kernel_rfl) ?_)
   | (go_at_call 117;refine HP.out.mono ?_;rintro e w3 ⟨rfl,hb3⟩))
  go_ret;exact ⟨rfl,hb1.trans (hb3.mono hb1.size)⟩
 | true =>
  cases q0 <;> cases q1 <;> cases q2 <;> cases q3
  all_goals
   go_enter Tryz.func92,Tryz.ntmps92
   go_wp2_with (first
    | (rw [<-HW1.out];refine wpList_load_row rfl 52 (.tmp 1) rfl w.heap.size rfl _ _ _ _ HNB.out Tryz.underlying52 rfl (by kernel_rfl) ?_)
    | (go_at_call 117;refine HP.out.mono ?_;rintro e w3 ⟨rfl,hb3⟩;obtain ⟨f0,f2⟩:=HNW.out _ hb3)
    | (go_at_call 119;refine (HCo.out _).mono ?_;rintro e w4 ⟨rfl,hb4⟩;have hb4a:Below w1.heap.size w1 (w4.alloc (.cells (coderCs false) 211)):=(hb3.trans (hb4.mono hb3.size)).alloc (nT hb3.size hb4.size) _;obtain ⟨f0a,f2a⟩:=HNW.out _ hb4a;unfold coderCs at f0a f2a;simp only [cputF,cgetF,Bool.false_eq_true,if_false,show decide ((2:Int)=3)=false from rfl,coderCs] at f0a f2a ⊢)
    | (go_at_call 122;refine (HHas.out _ ?_ _ ?_).mono ?_;exact hb1.trans (hb4a.mono hb1.size);exact Blk.new _ _ _;rintro e w5 ⟨rfl,hb5⟩;have hF5:=hb1.trans ((hb4a.trans (hb5.mono hb4a.size)).mono hb1.size);obtain ⟨f0b,f2b⟩:=HNW.out w5 (hb4a.trans (hb5.mono hb4a.size)))
    | (go_at_call 123;refine (HTw.out _ ?_).mono ?_;exact hF5;rintro e w6 ⟨rfl,hb6⟩;have hF6:=hF5.trans (hb6.mono hF5.size);obtain ⟨f0c,f2c⟩:=HNW.out w6 ((hb4a.trans (hb5.mono hb4a.size)).trans (hb6.mono (nT hb4a.size hb5.size))))
    | (go_at_call 124;refine (HSo.out _ ?_).mono ?_;exact hF6;rintro e w7 ⟨rfl,hb7⟩;have hF7:=hF6.trans (hb7.mono hF6.size)))
   go_ret
   first
    | exact ⟨rfl,hF7⟩
    | exact ⟨rfl,hF6⟩
    | exact ⟨rfl,hF5⟩
    | exact ⟨rfl,hb1.trans (hb3.mono hb1.size)⟩
theorem isNode_flat {B:Nat} (x:NX) (w:World) (hB:B<=w.heap.size) (hk2:x.kind≠2) (hk3:x.kind≠3) :
 Calls Tryz.prog 92 #[x.val] w fun e w'=>e=.returned (.bool (nodeOK x.n))/\Below w.heap.size w w':=by
 obtain ⟨w1,hw1⟩:∃ w1,w1=w.alloc (.cells x.cells 52):=⟨_,rfl⟩
 have hb1:Below w.heap.size w w1:=by rw [hw1];exact (bR _ w).alloc (nR _) _
 have hN:Blk w1 w.heap.size 52 x.cells:=by rw [hw1];exact Blk.new _ _ _
 have hP:=isPlain_any x.kind x.lsn x.ca x.l.length x.cc x.next x.da x.data.length x.dc x.root x.pages x.free x.entries w1;rw [plainT_n] at hP
 have hOK:nodeOK x.n=(plainOK x.n && (if x.kind=1 then headT x.root x.pages x.free else if x.kind=4 then decide (1<=x.data.length/\x.data.length<=238) else decide (x.kind=5))):=by
  unfold nodeOK;show (plainOK x.n && (if x.kind=1 then headOK x.n else if x.kind=4 then decide (1<=x.data.length/\x.data.length<=238) else if x.kind=5 then true else if x.kind=2 then _ else if x.kind=3 then _ else false))=_;congr 1;by_cases h1:x.kind=1
  ·rw [if_pos h1,if_pos h1];rfl
  ·rw [if_neg h1,if_neg h1];by_cases h4:x.kind=4
   ·rw [if_pos h4,if_pos h4]
   ·rw [if_neg h4,if_neg h4];by_cases h5:x.kind=5
    ·rw [if_pos h5,dT h5]
    ·rw [if_neg h5,if_neg hk2,if_neg hk3,dF h5]
 rw [hOK]
 have HNW:Hid (∀ W,Below w1.heap.size w1 W->W.cell? ⟨w.heap.size,0,none⟩=some (.int .i64 x.kind)/\W.cell? ⟨w.heap.size,4,none⟩=some (.slice x.da x.data.length x.dc) /\
  W.cell? ⟨w.heap.size,5,none⟩=some (.int .u32 (x.root:Nat))/\W.cell? ⟨w.heap.size,6,none⟩=some (.int .u32 (x.pages:Nat))/\W.cell? ⟨w.heap.size,7,none⟩=some (.int .u32 (x.free:Nat))/\W.cell? ⟨w.heap.size,8,none⟩=some (.int .u64 (x.entries:Nat))) :=
  lH fun W hW=>⟨(hN.below hW hN.lt).cell 0,(hN.below hW hN.lt).cell 4,(hN.below hW hN.lt).cell 5,(hN.below hW hN.lt).cell 6,(hN.below hW hN.lt).cell 7,(hN.below hW hN.lt).cell 8⟩
 obtain ⟨p,KP⟩:∃ q,Hid (plainOK x.n=q):=⟨_,lH rfl⟩
 rw [KP.out] at hP ⊢;have HH:Hid (∀ W,_):=lH fun W=>isHead_any x.root x.pages x.free x.entries W
 obtain ⟨q,KQ⟩:∃ q,Hid (headT x.root x.pages x.free=q):=⟨_,lH rfl⟩
 rw [KQ.out] at HH ⊢
 obtain ⟨n,KN⟩:∃ n,Hid (x.data.length=n):=⟨_,lH rfl⟩
 rw [KN.out] at HNW ⊢
 obtain ⟨kd,KK⟩:∃ n,Hid (x.kind=n):=⟨_,lH rfl⟩
 unfold NX.val nodeV NX.cells at *;rw [KK.out] at hk2 hk3 HNW hP hN hw1 ⊢;rw [KN.out] at hP hN hw1 ⊢;have HW1:=lH hw1;have HP:=lH hP;have HNB:=lH hN
 have k2:(kd==2)=false:=by simpa using hk2
 have k3:(kd==3)=false:=by simpa using hk3
 clear hP hN hw1 KP KQ hOK KK KN hk2 hk3
 cases p with
 | false =>
  rw [Bool.false_and];go_enter Tryz.func92,Tryz.ntmps92
  go_wp2_with (first
   | (rw [<-HW1.out];refine wpList_load_row rfl 52 (.tmp 1) rfl w.heap.size rfl _ _ _ _ HNB.out Tryz.underlying52 rfl (by kernel_rfl) ?_)
   | (go_at_call 117;refine HP.out.mono ?_;rintro e w3 ⟨rfl,hb3⟩))
  go_ret;exact ⟨rfl,hb1.trans (hb3.mono hb1.size)⟩
 | true =>
  rw [Bool.true_and];by_cases h1:kd=1
  ·rw [if_pos h1];subst h1;go_enter Tryz.func92,Tryz.ntmps92
   go_wp2_with (first
    | (rw [<-HW1.out];refine wpList_load_row rfl 52 (.tmp 1) rfl w.heap.size rfl _ _ _ _ HNB.out Tryz.underlying52 rfl (by kernel_rfl) ?_)
    | (go_at_call 117;refine HP.out.mono ?_;rintro e w3 ⟨rfl,hb3⟩;obtain ⟨f0,f4,f5,f6,f7,f8⟩:=HNW.out _ hb3)
    | (go_at_call 118;refine (HH.out _).mono ?_;rintro e w4 ⟨rfl,hb4⟩))
   go_ret;exact ⟨rfl,hb1.trans ((hb3.trans (hb4.mono hb3.size)).mono hb1.size)⟩
  ·have k1:(kd==1)=false:=by simpa using h1
   rw [if_neg h1];by_cases h4:kd=4
   ·rw [if_pos h4];subst h4;go_enter Tryz.func92,Tryz.ntmps92
    go_wp2_with (first
     | (rw [<-HW1.out];refine wpList_load_row rfl 52 (.tmp 1) rfl w.heap.size rfl _ _ _ _ HNB.out Tryz.underlying52 rfl (by kernel_rfl) ?_)
     | (go_at_call 117;refine HP.out.mono ?_;rintro e w3 ⟨rfl,hb3⟩;obtain ⟨f0,f4,f5,f6,f7,f8⟩:=HNW.out _ hb3))
    all_goals
     go_ret;refine ⟨retB ?_,hb1.trans (hb3.mono hb1.size)⟩
     first
      | (rw [Bool.eq_iff_iff];simp only [decide_eq_true_eq,beq_iff_eq,Bool.false_eq_true,false_iff];omega)
      | (rw [Bool.eq_iff_iff];simp;omega)
   ·have k4:(kd==4)=false:=by simpa using h4
    rw [if_neg h4]
    obtain ⟨b5,k5⟩:∃ b,(kd==5)=b:=⟨_,rfl⟩
    have e5:decide (kd=5)=b5:=by rw [<-k5,Bool.eq_iff_iff];simp
    rw [e5];clear e5
    cases b5
    all_goals
     go_enter Tryz.func92,Tryz.ntmps92
     go_wp2_with (first
      | (rw [<-HW1.out];refine wpList_load_row rfl 52 (.tmp 1) rfl w.heap.size rfl _ _ _ _ HNB.out Tryz.underlying52 rfl (by kernel_rfl) ?_)
      | (go_at_call 117;refine HP.out.mono ?_;rintro e w3 ⟨rfl,hb3⟩;obtain ⟨f0,f4,f5,f6,f7,f8⟩:=HNW.out _ hb3))
     go_ret;exact ⟨rfl,hb1.trans (hb3.mono hb1.size)⟩
theorem isNode_any {B:Nat} (x:NX) (w:World) (h:NodeAt w B x) (hB:B<=w.heap.size) :
 Calls Tryz.prog 92 #[x.val] w fun e w'=>e=.returned (.bool (nodeOK x.n))/\Below w.heap.size w w':=by
 by_cases h3:x.kind=3
 ·exact isNode_leaf x w h hB h3
 ·by_cases h2:x.kind=2
  ·exact isNode_inner x w h hB h2
  ·exact isNode_flat x w hB h2 h3
theorem fix4_reads {w:World} {g n:Nat} (h:Blk w g 5 (bl (fixN 4 n)).toArray):Reads w w.heap.size 1 (some ⟨g,0,none⟩) (fixN 4 n).length (bl (fixN 4 n)):=rB h rfl
theorem laid1 {w:World} {A:Option Addr} {c:Nat} {b:List UInt8} (h1:Reads w w.heap.size 1 A b.length (bl b)) (hs:b.length<=243) :
 Calls Tryz.prog 146 #[.slice (some ⟨w.heap.size,0,none⟩) 1 1] (w.alloc (.cells #[.slice A b.length c] 23)) fun e w'=>∃ g',e=.returned (.slice (some ⟨g',0,none⟩) 243 243)/\w.heap.size<=g'/\Blk w' g' 5 (bl (padB b)).toArray/\Below w.heap.size w w':=by
 have hcat:cat [⟨A,c,b⟩]=b:=by simp [cat]
 have hba:Below w.heap.size w (w.alloc (.cells #[.slice A b.length c] 23)):=(bR _ w).alloc (nR _) _
 have hC:=laid_any (B:=w.heap.size) w.heap.size 1 [⟨A,c,b⟩] (w.alloc (.cells #[.slice A b.length c] 23)) (by simp) (fun k p hk=>by
  have hbk:=Blk.new w 23 #[.slice A b.length c];rw [hbk.cell]
  rcases k with _ | k
  ·cases hk;rfl
  ·simp at hk) (fun p hp=>by
  simp only [List.mem_singleton] at hp;subst hp
  exact h1.below hba) (by rw [hcat];exact hs) (by simp) (by simp)
 rw [hcat] at hC;refine hC.mono ?_;rintro e w' ⟨g',rfl,hg,hB,hb⟩
 exact ⟨g',rfl,by
  have:(w.alloc (.cells #[.slice A b.length c] 23)).heap.size=w.heap.size+1:=by simp
  omega,hB,hba.trans (hb.mono (by simp))⟩
theorem body_free (x:NX) (w:World) (hk:x.kind=5) (hn:x.next<4294967296) :
 Calls Tryz.prog 106 #[x.val] w fun e w'=>∃ g,e=.returned (.slice (some ⟨g,0,none⟩) 243 243)/\w.heap.size<=g/\Blk w' g 5 (bl (bodyN x.n)).toArray/\Below w.heap.size w w':=by
 have hbd:bodyN x.n=padB (fixN 4 x.next):=by
  unfold bodyN;rw [show x.n.kind=5 from hk,if_neg (by decide),if_neg (by decide),if_pos rfl];rfl
 rw [hbd]
 obtain ⟨w1,hw1⟩:∃ w1,w1=w.alloc (.cells x.cells 52):=⟨_,rfl⟩
 have hb1:Below w.heap.size w w1:=by rw [hw1];exact (bR _ w).alloc (nR _) _
 have hN:Blk w1 w.heap.size 52 x.cells:=by rw [hw1];exact Blk.new _ _ _
 have f0:w1.cell? ⟨w.heap.size,0,none⟩=some (.int .i64 5):=(hN.cell 0).trans (by rw [<-hk];rfl);have f3:w1.cell? ⟨w.heap.size,3,none⟩=some (.int .u32 (x.next:Nat)):=hN.cell 3;have hF:=nfixed_any x.next hn w1;have HL:Hid (∀ (W:World) (g:Nat),Blk W g 5 (bl (fixN 4 x.next)).toArray->_):=lH fun W g hB=>laid1 (c:=4) (fix4_reads hB) (by rw [fL];omega);simp only [fL] at HL;have HF:=lH hF;unfold NX.val nodeV NX.cells at *;rw [hk] at *;have HW1:=lH hw1;clear hF hN hw1 hk hbd;go_enter Tryz.func106,Tryz.ntmps106
 go_wp2_with (first
  | (rw [<-HW1.out];go_at_call 147;refine HF.out.mono ?_;rintro e w3 ⟨g,rfl,hg,hB3,hb3⟩)
  | (go_at_call 146;refine (HL.out _ _ hB3).mono ?_;rintro e w4 ⟨g',rfl,hg',hB4,hb4⟩))
 go_ret;exact ⟨g',rfl,nT (nT hb1.size hb3.size) hg',hB4,hb1.trans ((hb3.trans (hb4.mono hb3.size)).mono hb1.size)⟩
theorem laid3 {w:World} {A1 A2 A3:Option Addr} {c1 c2 c3:Nat} {b1 b2 b3:List UInt8} (h1:Reads w w.heap.size 1 A1 b1.length (bl b1)) (h2:Reads w w.heap.size 1 A2 b2.length (bl b2)) (h3:Reads w w.heap.size 1 A3 b3.length (bl b3)) (hs:(b1++(b2++b3)).length<=243) :
 Calls Tryz.prog 146 #[.slice (some ⟨w.heap.size,0,none⟩) 3 3] (w.alloc (.cells #[.slice A1 b1.length c1,.slice A2 b2.length c2,.slice A3 b3.length c3] 23)) fun e w'=>∃ g',e=.returned (.slice (some ⟨g',0,none⟩) 243 243)/\w.heap.size<=g'/\Blk w' g' 5 (bl (padB (b1++(b2++b3)))).toArray/\Below w.heap.size w w':=by
 have hcat:cat [⟨A1,c1,b1⟩,⟨A2,c2,b2⟩,⟨A3,c3,b3⟩]=b1++(b2++b3):=by simp [cat]
 have hba:Below w.heap.size w (w.alloc (.cells #[.slice A1 b1.length c1,.slice A2 b2.length c2,.slice A3 b3.length c3] 23)):=(bR _ w).alloc (nR _) _
 have hC:=laid_any (B:=w.heap.size) w.heap.size 3 [⟨A1,c1,b1⟩,⟨A2,c2,b2⟩,⟨A3,c3,b3⟩] (w.alloc (.cells #[.slice A1 b1.length c1,.slice A2 b2.length c2,.slice A3 b3.length c3] 23)) (by simp) (fun k p hk=>by
  have hbk:=Blk.new w 23 #[.slice A1 b1.length c1,.slice A2 b2.length c2,.slice A3 b3.length c3];rw [hbk.cell]
  rcases k with _ | _ | _ | k
  ·cases hk;rfl
  ·cases hk;rfl
  ·cases hk;rfl
  ·simp at hk) (fun p hp=>by
  simp only [List.mem_cons,List.not_mem_nil,or_false] at hp
  rcases hp with rfl | rfl | rfl
  ·exact h1.below hba
  ·exact h2.below hba
  ·exact h3.below hba) (by rw [hcat];exact hs) (by simp) (by simp)
 rw [hcat] at hC;refine hC.mono ?_;rintro e w' ⟨g',rfl,hg,hB,hb⟩
 exact ⟨g',rfl,by
  have:(w.alloc (.cells #[.slice A1 b1.length c1,.slice A2 b2.length c2,.slice A3 b3.length c3] 23)).heap.size=w.heap.size+1:=by simp
  omega,hB,hba.trans (hb.mono (by simp))⟩
theorem body_over {B:Nat} (x:NX) (w:World) (hk:x.kind=4) (hn:x.next<4294967296) (hB:B<=w.heap.size) (hr:Reads w B 1 x.da x.data.length (bl x.data)) (hl:x.data.length<=238) :
 Calls Tryz.prog 106 #[x.val] w fun e w'=>∃ g,e=.returned (.slice (some ⟨g,0,none⟩) 243 243)/\w.heap.size<=g/\Blk w' g 5 (bl (bodyN x.n)).toArray/\Below w.heap.size w w':=by
 have hbd:bodyN x.n=padB (fixN 4 x.next++([UInt8.ofNat x.data.length]++x.data)):=by
  unfold bodyN;rw [show x.n.kind=4 from hk,if_neg (by decide),if_pos rfl];rfl
 rw [hbd]
 obtain ⟨w1,hw1⟩:∃ w1,w1=w.alloc (.cells x.cells 52):=⟨_,rfl⟩
 have hb1:Below w.heap.size w w1:=by rw [hw1];exact (bR _ w).alloc (nR _) _
 have hN:Blk w1 w.heap.size 52 x.cells:=by rw [hw1];exact Blk.new _ _ _
 have f0:w1.cell? ⟨w.heap.size,0,none⟩=some (.int .i64 4):=(hN.cell 0).trans (by rw [<-hk];rfl)
 have kS:Hid (∀ W,Below w1.heap.size w1 W->(W.cell? ⟨w.heap.size,3,none⟩=some (.int .u32 (x.next:Nat))/\W.cell? ⟨w.heap.size,4,none⟩=some (.slice x.da x.data.length x.dc))):=lH fun W hW=>⟨(hN.below hW hN.lt).cell 3,(hN.below hW hN.lt).cell 4⟩
 have HF:Hid (∀ W,_):=lH fun W=>nfixed_any x.next hn W
 obtain ⟨n,KN⟩:∃ n,Hid (x.data.length=n):=⟨_,lH rfl⟩
 have HL:Hid (∀ (W:World) (A1 A2:Option Addr),Reads W W.heap.size 1 A1 (fixN 4 x.next).length (bl (fixN 4 x.next))->Reads W W.heap.size 1 A2 [UInt8.ofNat n].length (bl [UInt8.ofNat n])->Reads W W.heap.size 1 x.da x.data.length (bl x.data)->_):=lH fun W A1 A2 h1 h2 h3=>laid3 (c1:=4) (c2:=1) (c3:=x.dc) h1 h2 h3 (by rw [lQ,fL,lQ];simp;omega);rw [KN.out] at HL kS hl ⊢;simp only [fL,List.length_singleton] at HL
 have hw8:IntKind.u8.wrap (n:Int)=(n:Int):=by rw [IntKind.wrap_u8];omega
 have HR:=lH hr;unfold NX.val nodeV NX.cells at *;rw [hk] at *;rw [KN.out] at hw1 ⊢;have HW1:=lH hw1;clear hN hw1 hk hbd hr;go_enter Tryz.func106,Tryz.ntmps106
 go_wp2_with fail
 rw [<-HW1.out];have hbd:Below w1.heap.size w1 w1.drew:=(bR _ w1).drew;refine regionE 12 (fun W0=>W0.cell? ⟨w.heap.size,3,none⟩=some (.int .u32 (x.next:Nat))/\W0.cell? ⟨w.heap.size,4,none⟩=some (.slice x.da n x.dc)) (by kernel_rfl) (by kernel_rfl) (by kernel_rfl) (by kernel_rfl) (by kernel_rfl) (kS.out _ hbd) (fun hHeld hTl=>?_);refine tkT 0 (v:=?_) hTl hHeld rfl ?_ (fun hTl=>?_);rotate_left
 ·intro w hSw;(try dsimp only at hSw);go_simp;all_goals with_reducible rfl
 try simp only [pT]
 refine tkT 1 (v:=?_) hTl hHeld rfl ?_ (fun hTl=>?_);rotate_left
 ·intro w hSw;(try dsimp only at hSw);go_simp;all_goals with_reducible rfl
 try simp only [pT]
 refine tkT 3 (v:=?_) hTl hHeld rfl ?_ (fun hTl=>?_);rotate_left
 ·intro w hSw;(try dsimp only at hSw);go_simp;all_goals with_reducible rfl
 try simp only [pT]
 refine tkT 4 (v:=?_) hTl hHeld rfl ?_ (fun hTl=>?_);rotate_left
 ·intro w hSw;(try dsimp only at hSw);go_simp;all_goals with_reducible rfl
 try simp only [pT]
 refine tkT 5 (v:=?_) hTl hHeld rfl ?_ (fun hTl=>?_);rotate_left
 ·intro w hSw;(try dsimp only at hSw);go_simp;all_goals with_reducible rfl
 try simp only [pT]
 refine tkT 6 (v:=?_) hTl hHeld rfl ?_ (fun hTl=>?_);rotate_left
 ·intro w hSw;(try dsimp only at hSw);go_simp;all_goals with_reducible rfl
 try simp only [pT]
 refine tkT 8 (v:=?_) hTl hHeld rfl ?_ (fun hTl=>?_);rotate_left
 ·intro w hSw;(try dsimp only at hSw);go_simp;all_goals with_reducible rfl
 try simp only [pT]
 refine tkT 9 (v:=?_) hTl hHeld rfl ?_ (fun hTl=>?_);rotate_left
 ·intro w hSw;(try dsimp only at hSw);go_simp;all_goals with_reducible rfl
 try simp only [pT]
 clear hTl;refine twoE 2 7 rfl rfl (by kernel_rfl) (fun K hK=>?_) (fun K hK=>?_)
 ·refine sC rfl 147 _ (by go_simp) (HF.out _) ?_;rintro e w3 ⟨g,e3,hg,hB3,hb3⟩;subst e3;refine ⟨_,rfl,?_⟩;have hbd3:Below w1.heap.size w1 w3:=hbd.trans (hb3.mono hbd.size);refine hK.out _ _ (fun _=>kS.out _ hbd3) ?_;clear hK K
  try simp only [pT]
  refine oneE 7 rfl (by kernel_rfl) (fun K hK=>?_);go_simp;refine hK.out _ _ (fun _=>kS.out _ (hbd3.alloc hbd3.size _)) ?_;clear hK K
  try simp only [pT]
  have hr1:=fix4_reads (hB3.alloc (.cells #[.int .u8 (n:Nat)] 5));have hr2:=one_byte w3 n (by omega);have hb4:Below w1.heap.size w1 (w3.alloc (.cells #[.int .u8 (n:Nat)] 5)):=hbd3.alloc hbd3.size _;have hbw4:Below w.heap.size w (w3.alloc (.cells #[.int .u8 (n:Nat)] 5)):=hb1.trans (hb4.mono hb1.size);have hr3:=rM (HR.out.below (hbw4.mono hB)) (nT hB hbw4.size);rw [fL] at hr1;rw [KN.out] at hr3;have hL:=HL.out _ _ _ hr1 hr2 hr3;refine oneE 10 rfl (by kernel_rfl) (fun K hK=>?_);go_simp;refine hK.out _ _ (fun _=>kS.out _ (hb4.alloc hb4.size _)) ?_;clear hK K
  try simp only [pT]
  refine oneE 11 rfl (by kernel_rfl) (fun K hK=>?_);refine sC rfl 146 _ (by go_simp) hL ?_;rintro e w5 ⟨g5,e5,hg5,hB5,hb5⟩;subst e5;refine ⟨_,rfl,?_⟩;refine hK.out _ _ (fun _=>kS.out _ (hb4.trans (hb5.mono hb4.size))) ?_;clear hK K
  try simp only [pT]
  refine oneE 12 rfl (by kernel_rfl) (fun K hK=>?_);go_simp;refine hK.out _ _ (fun h=>absurd h (by decide)) ?_;clear hK K
  try simp only [pT]
  refine doneE (by kernel_rfl) ?_ _;go_wp2;go_ret;exact ⟨g5,rfl,nT hbw4.size hg5,hB5,hbw4.trans (hb5.mono hbw4.size)⟩
 ·go_simp;have hb3a:Below w1.heap.size w1 (w1.drew.alloc (.cells #[.int .u8 (n:Nat)] 5)):=hbd.alloc hbd.size _;refine hK.out _ _ (fun _=>kS.out _ hb3a) ?_;clear hK K
  try simp only [pT]
  refine oneE 2 rfl (by kernel_rfl) (fun K hK=>?_);refine sC rfl 147 _ (by go_simp) (HF.out _) ?_
  rintro e w4 ⟨g,e3,hg,hB4,hb4'⟩;subst e3;refine ⟨_,rfl,?_⟩;have hb4:Below w1.heap.size w1 w4:=hb3a.trans (hb4'.mono hb3a.size)
  refine hK.out _ _ (fun _=>kS.out _ hb4) ?_;clear hK K
  try simp only [pT]
  have hr1:=fix4_reads hB4;have hr2:=rM ((one_byte w1.drew n (by omega)).below hb4') hb4'.size;have hbw4:Below w.heap.size w w4:=hb1.trans (hb4.mono hb1.size);have hr3:=rM (HR.out.below (hbw4.mono hB)) (nT hB hbw4.size);rw [fL] at hr1;rw [KN.out] at hr3;have hL:=HL.out _ _ _ hr1 hr2 hr3;refine oneE 10 rfl (by kernel_rfl) (fun K hK=>?_);go_simp;refine hK.out _ _ (fun _=>kS.out _ (hb4.alloc hb4.size _)) ?_;clear hK K
  try simp only [pT]
  refine oneE 11 rfl (by kernel_rfl) (fun K hK=>?_);refine sC rfl 146 _ (by go_simp) hL ?_;rintro e w5 ⟨g5,e5,hg5,hB5,hb5⟩;subst e5;refine ⟨_,rfl,?_⟩;refine hK.out _ _ (fun _=>kS.out _ (hb4.trans (hb5.mono hb4.size))) ?_;clear hK K
  try simp only [pT]
  refine oneE 12 rfl (by kernel_rfl) (fun K hK=>?_);go_simp;refine hK.out _ _ (fun h=>absurd h (by decide)) ?_;clear hK K
  try simp only [pT]
  refine doneE (by kernel_rfl) ?_ _;go_wp2;go_ret;exact ⟨g5,rfl,nT hbw4.size hg5,hB5,hbw4.trans (hb5.mono hbw4.size)⟩
end
end Go.Proofs.YtenfkghoolegfaaGreatDoor
