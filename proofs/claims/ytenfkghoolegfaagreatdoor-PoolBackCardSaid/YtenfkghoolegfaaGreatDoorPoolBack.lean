/- The law PoolBack returns true at every input, and what came in reads as it did; its card, tied to the program's text. No condition. -/
import Derived.Test.YtenfkghoolegfaaGreatDoorCards
import Derived.Test.YtenfkghoolegfaaGreatDoorTie
import Derived.Test.YtenfkghoolegfaaGreatDoorVl
import Derived.Test.YtenfkghoolegfaaGreatDoorVl
import Derived.SevenTiedAt
set_option maxRecDepth 100000
set_option linter.unusedVariables false
namespace Go.Proofs.YtenfkghoolegfaaGreatDoor.poolBack
open Go.ChangeShapes Go.WideShapes Go.ChangeAt Go.RowKit Go.Joins Go.Deep
theorem lifted (os:Os) (started:os.Started) (H:Type) (enc:TypeId × Value->H) :
 ReturnsInHanded {} Tryz.checked os 6 .any (fun w args=>(Rows.poolBackSpec.pre enc Tryz.prog Tryz.f6 [] false w args/\laidMetH Tryz.prog laidL w)/\sizedMet enc Tryz.prog Tryz.f6 (OpenSpec.ofChange Rows.poolBackSpec) false w args)
  (Rows.poolBackSpec.post enc Tryz.prog Tryz.f6 false true false false):=by
 refine returnsInHanded_of_change_and (C:=Tryz.checked) (X:=fun w _=>laidMetH Tryz.prog laidL w) (fun _ _ _ hh h=>h.of_heap hh) own started (by kernel_rfl) Tryz.func6
  (ChangeSpec.witness_at (enc:=enc) (C:=Tryz.checked) (os:=os) (X:=fun w _=>laidMetH Tryz.prog laidL w) false (laidWorld os) #[.int .u64 0,.slice none 0 0,.slice none 0 0] 8 rfl (by kernel_rfl) (by kernel_rfl) (by kernel_rfl) (by kernel_rfl) (by kernel_rfl) (laidWorld_met os _)) ?_
 intro W base args ds gs before hval0 hW _ hsz0 hL _;have hW':=hW;obtain ⟨p,q,hA0,hV0,rfl,hfz,hnd⟩:=hW;have hA:DataW.TrodAll enc Tryz.prog W 0 (fun _=>true) true Tryz.f6.params.toList args.toList ds p:=hA0;have hV:DataW.TrodVars enc Tryz.prog W (fun _=>true) [] gs q:=hV0;rw [Tryz.params6] at hA;obtain ⟨v0,vs0,d0,ds0,p0,q0,hargs,rfl,rfl,h0,r0⟩:=trodAll_cons hA;obtain ⟨v1,vs1,d1,ds1,p1,q1,rfl,rfl,rfl,h1,r1⟩:=trodAll_cons r0;obtain ⟨v2,vs2,d2,ds2,p2,q2,rfl,rfl,rfl,h2,r2⟩:=trodAll_cons r1;obtain ⟨rfl,rfl,rfl⟩:=trodAll_nil r2
 obtain rfl:args=#[v0,v1,v2]:=by cases args;simp_all
 have hg:GlobAt W:=handle_of_laid hL;have ht:PowAt W:=pow_of hL
 obtain ⟨rfl,rfl⟩:gs=[]/\q=[]:=by
  cases gs with
  | nil=>exact ⟨rfl,hV⟩
  | cons g r=>exact absurd hV (by intro h;cases h)
 have k0:=h0;have k1:=h1;have k2:=h2
 have lt0:∀ x∈p0,x.block<W.heap.size:=by obtain ⟨m,hm⟩:=k0;exact DataW.trod_lt m _ _ _ hm
 have lt1:∀ x∈p1,x.block<W.heap.size:=by obtain ⟨m,hm⟩:=k1;exact DataW.trod_lt m _ _ _ hm
 have lt2:∀ x∈p2,x.block<W.heap.size:=by obtain ⟨m,hm⟩:=k2;exact DataW.trod_lt m _ _ _ hm
 have hval:∀ (j:Nat) t v,Tryz.f6.params[j]?=some t->#[v0,v1,v2][j]?=some v->Value.okWide Tryz.prog W .any base t v:=hval0;rw [Tryz.params6] at hval;obtain ⟨lsn,rfl⟩:=okWide_int Tryz.underlying34 (hval 0 34 v0 rfl rfl);obtain ⟨a1,n1,g1,rfl⟩:=okWide_slice Tryz.underlying55 (hval 1 55 v1 rfl rfl);obtain ⟨a2,n2,g2,rfl⟩:=okWide_slice Tryz.underlying55 (hval 2 55 v2 rfl rfl)
 obtain ⟨hl0,hl1⟩:0<=lsn/\lsn<18446744073709551616:=by
  obtain ⟨m0,hm0⟩:=h0;obtain ⟨kd,hc0,_,wf⟩:=DataW.trod_int Tryz.underlying34 hm0;have hc1:[Value.int .u64 lsn]=[Value.int .u64 kd]:=hc0
  cases hc1
  have e1:IntKind.u64.min=0:=rfl;have e2:IntKind.u64.max=18446744073709551615:=rfl;simp [Lit.wf] at wf;omega
 obtain ⟨A,c,L1,hv,hr,hi⟩:∃ (A:Option Addr) (c:Nat) (l:List DX),Value.slice a1 n1 g1=.slice A l.length c/\DeedsAt W A l/\l.length<=9223372036854775807:=by
  obtain ⟨m,hm⟩:=h1;exact deeds_in hm
 obtain ⟨A2,c2,L2,hv2,hr2,hi2⟩:∃ (A:Option Addr) (c:Nat) (l:List DX),Value.slice a2 n2 g2=.slice A l.length c/\DeedsAt W A l/\l.length<=9223372036854775807:=by
  obtain ⟨m,hm⟩:=h2;exact deeds_in hm
 obtain ⟨n,rfl⟩:∃ n:Nat,lsn=(n:Int):=⟨lsn.toNat,by omega⟩
 rw [hv,hv2];rw [hv] at k1 hW';rw [hv2] at k2 hW';clear hA0 hval0;refine (poolBack_any n (by omega) hr hr2 hi hi2 hg ht).mono fun e W' ⟨he,bel⟩=>?_;subst he;exact ⟨_,rfl,_,_,_,[],_,[],hW',trodAll_mk1 (shut_bool Tryz.underlying4 _),(trodAll_cons_mk (Below.trod laidOut (by kernel_rfl) (of_decide_eq_true (by kernel_rfl)) k0 bel lt0) (trodAll_cons_mk (Below.trod laidOut (by kernel_rfl) (of_decide_eq_true (by kernel_rfl)) k1 bel lt1) (trodAll_cons_mk (Below.trod laidOut (by kernel_rfl) (of_decide_eq_true (by kernel_rfl)) k2 bel lt2) trodAll_mk0))),rfl,bel.frame _,fun h=>by cases h⟩
theorem over:Rows.PoolBackSaid :=
 OpenClaim.holds_of_wide 6 Tryz.f6 rfl rfl rfl rfl rfl rfl rfl ⟨rfl,rfl,rfl,rfl,rfl⟩ rfl rfl rfl rfl rfl (by kernel_rfl) Tryz.func6 (by kernel_rfl)
  (of_decide_eq_true (by kernel_rfl)) (by unfold Func.isWrapper;rw [if_neg (of_decide_eq_false (by kernel_rfl))];exact ⟨rfl,rfl⟩)
  (fun os started H enc _=>lifted os started H enc)
theorem proved:Rows.PoolBackCardSaid :=
 Claim7.holds_tied_plain_at .later [] [.data,.data,.data,.handle] true _ true
  over (fun _ h=>by cases h) (by kernel_rfl) (fun _ h=>by cases h) poolBack_row_tie rfl ⟨rfl,rfl⟩ (by kernel_rfl) rfl
  (fun f fn hf hfn=>by
   obtain rfl:f=6:=Option.some.inj ((show Tryz.prog.funcNamed "scow/scowlaw09.PoolBack"=some 6 by kernel_rfl).symm.trans hf) |>.symm
   obtain rfl:fn=Tryz.f6:=(Option.some.inj (Tryz.func6.symm.trans hfn)).symm
   exact ⟨by kernel_rfl,fun j t ht=>by
    rw [Tryz.params6] at ht
    have h3:t=34\/t=55:=by
     rcases j with _ | _ | _ | j
     ·exact .inl (by simpa using ht.symm)
     ·exact .inr (by simpa using ht.symm)
     ·exact .inr (by simpa using ht.symm)
     ·simp at ht
    rcases h3 with rfl | rfl
    ·exact (show Tryz.prog.wantsStandIn 34=false by kernel_rfl)
    ·exact (show Tryz.prog.wantsStandIn 55=false by kernel_rfl)⟩)
  (by kernel_rfl)
#print axioms proved
end Go.Proofs.YtenfkghoolegfaaGreatDoor.poolBack
