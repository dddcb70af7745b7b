/- The law ScanWild returns true at every input, and what came in reads as it did; its card, tied to the program's text. No condition. -/
import Derived.Test.YtgohffhoapkeaaaGreatDoorVz
import Derived.Test.YtgohffhoapkeaaaGreatDoorCards
import Derived.Test.YtgohffhoapkeaaaGreatDoorTie
import Derived.Test.YtgohffhoapkeaaaGreatDoorZi
import Derived.Test.YtgohffhoapkeaaaGreatDoorZl
import Derived.Test.YtgohffhoapkeaaaGreatDoorZl
import Derived.SevenTiedAt
set_option maxRecDepth 100000
set_option linter.unusedVariables false
namespace Go.Proofs.YtgohffhoapkeaaaGreatDoor.scanWild
open Go.ChangeShapes Go.WideShapes Go.ChangeAt Go.RowKit Go.Joins Go.Deep
theorem FV {W:World} (h:laidMetH Tryz.prog oP W):aH W:=by
 obtain ⟨_,t,fz,e⟩:=Hh h 2 _ rfl;unfold aH;rw [e]
theorem lifted (os:Os) (started:os.Started) (H:Type) (enc:TypeId × Value->H) :
 ReturnsInHanded {} Tryz.checked os 8 .any (fun w args=>(Rows.scanWildSpec.pre enc Tryz.prog Tryz.f8 [] false w args/\laidMetH Tryz.prog oP w)/\sizedMet enc Tryz.prog Tryz.f8 (OpenSpec.ofChange Rows.scanWildSpec) false w args)
  (Rows.scanWildSpec.post enc Tryz.prog Tryz.f8 false true false false):=by
 refine returnsInHanded_of_change_and (C:=Tryz.checked) (X:=fun w _=>laidMetH Tryz.prog oP w) (fun _ _ _ hh h=>h.of_heap hh) own started (by kernel_rfl) Tryz.func8
  (ChangeSpec.witness_at (enc:=enc) (C:=Tryz.checked) (os:=os) (X:=fun w _=>laidMetH Tryz.prog oP w) false (mD os) #[.slice none 0 0,.slice none 0 0,.slice none 0 0] 8 rfl (by kernel_rfl) (by kernel_rfl) (by kernel_rfl) (by kernel_rfl) (by kernel_rfl) (qX os _)) ?_
 intro W base args ds gs before hval0 hW _ hsz0 hL _;have hsz:(DataW.weightsEach Tryz.prog (Tryz.f8.params.toList++Rows.scanWildSpec.plain.varTypes Tryz.prog) (ds++gs)).all (·<=reachBytes)=true:=hsz0;clear hsz0;have hW':=hW;obtain ⟨p,q,hA0,hV0,rfl,hfz,hnd⟩:=hW;have hA:DataW.TrodAll enc Tryz.prog W 0 (fun _=>true) true Tryz.f8.params.toList args.toList ds p:=hA0;have hV:DataW.TrodVars enc Tryz.prog W (fun _=>true) [] gs q:=hV0;rw [Tryz.params8] at hA hsz;obtain ⟨v0,vs0,d0,ds0,p0,q0,hargs,rfl,rfl,h0,r0⟩:=trodAll_cons hA;obtain ⟨v1,vs1,d1,ds1,p1,q1,rfl,rfl,rfl,h1,r1⟩:=trodAll_cons r0;obtain ⟨v2,vs2,d2,ds2,p2,q2,rfl,rfl,rfl,h2,r2⟩:=trodAll_cons r1;obtain ⟨rfl,rfl,rfl⟩:=trodAll_nil r2
 obtain rfl:args=#[v0,v1,v2]:=by cases args;simp_all
 have hg:ay W:=oQ hL;have ht:aH W:=FV hL
 obtain ⟨rfl,rfl⟩:gs=[]/\q=[]:=by
  cases gs with
  | nil=>exact ⟨rfl,hV⟩
  | cons g r=>exact absurd hV (by intro h;cases h)
 have k0:=h0;have k1:=h1;have k2:=h2
 have lt0:∀ x∈p0,x.block<W.heap.size:=by obtain ⟨m,hm⟩:=k0;exact DataW.trod_lt m _ _ _ hm
 have lt1:∀ x∈p1,x.block<W.heap.size:=by obtain ⟨m,hm⟩:=k1;exact DataW.trod_lt m _ _ _ hm
 have lt2:∀ x∈p2,x.block<W.heap.size:=by obtain ⟨m,hm⟩:=k2;exact DataW.trod_lt m _ _ _ hm
 have hval:∀ (j:Nat) t v,Tryz.f8.params[j]?=some t->#[v0,v1,v2][j]?=some v->Value.okWide Tryz.prog W .any base t v:=hval0;rw [Tryz.params8] at hval;obtain ⟨a1,n1,g1,rfl⟩:=okWide_slice Tryz.underlying52 (hval 0 52 v0 rfl rfl);obtain ⟨a2,n2,g2,rfl⟩:=okWide_slice Tryz.underlying23 (hval 1 23 v1 rfl rfl);obtain ⟨a3,n3,g3,rfl⟩:=okWide_slice Tryz.underlying23 (hval 2 23 v2 rfl rfl)
 obtain ⟨A,c,ps,hv,hr,hi⟩:∃ (A:Option Addr) (c:Nat) (l:List Pt),Value.slice a1 n1 g1=.slice A l.length c/\nk W A l/\l.length<=9223372036854775807:=by
  obtain ⟨m,hm⟩:=h0;exact B7 hm
 obtain ⟨x,hv2,hr2,_,hi2⟩:∃ p:Pt,Value.slice a2 n2 g2=p.val/\Reads W W.heap.size 1 p.A p.b.length (bl p.b)/\p.b.length<=p.c/\p.b.length<=4611686018427387903:=by
  obtain ⟨m,hm⟩:=h1;obtain ⟨p,e1,e2,e3,_⟩:=oR hm;exact ⟨p,e1,e2,e3,nT (nn hm (uL hsz (j:=1) rfl rfl) e1) (by decide)⟩
 obtain ⟨y,hv3,hr3,_,hi3⟩:∃ p:Pt,Value.slice a3 n3 g3=p.val/\Reads W W.heap.size 1 p.A p.b.length (bl p.b)/\p.b.length<=p.c/\p.b.length<=4611686018427387903:=by
  obtain ⟨m,hm⟩:=h2;obtain ⟨p,e1,e2,e3,_⟩:=oR hm;exact ⟨p,e1,e2,e3,nT (nn hm (uL hsz (j:=2) rfl rfl) e1) (by decide)⟩
 rw [hv,hv2,hv3];rw [hv] at k0 hW';rw [hv2] at k1 hW';rw [hv3] at k2 hW';clear hA0 hval0;refine (B8 (fun W g t=>Ad g t) x.c y.c hg ht hr hi hr2 hi2 hr3 hi3).mono fun e W' ⟨he,bel⟩=>?_;subst he;exact ⟨_,rfl,_,_,_,[],_,[],hW',trodAll_mk1 (shut_bool Tryz.underlying4 _),(trodAll_cons_mk (Below.trod laidOut (by kernel_rfl) (of_decide_eq_true (by kernel_rfl)) k0 bel lt0) (trodAll_cons_mk (Below.trod laidOut (by kernel_rfl) (of_decide_eq_true (by kernel_rfl)) k1 bel lt1) (trodAll_cons_mk (Below.trod laidOut (by kernel_rfl) (of_decide_eq_true (by kernel_rfl)) k2 bel lt2) trodAll_mk0))),rfl,bel.frame _,fun h=>by cases h⟩
theorem over:Rows.ScanWildSaid :=
 OpenClaim.holds_of_wide 8 Tryz.f8 rfl rfl rfl rfl rfl rfl rfl ⟨rfl,rfl,rfl,rfl,rfl⟩ rfl rfl rfl rfl rfl (by kernel_rfl) Tryz.func8 (by kernel_rfl)
  (of_decide_eq_true (by kernel_rfl)) (by unfold Func.isWrapper;rw [if_neg (of_decide_eq_false (by kernel_rfl))];exact ⟨rfl,rfl⟩)
  (fun os started H enc _=>lifted os started H enc)
theorem proved:Rows.ScanWildCardSaid :=
 Claim7.holds_tied_plain_at .later [] [.data,.data,.data,.handle] true _ true
  over (fun _ h=>by cases h) (by kernel_rfl) (fun _ h=>by cases h) scanWild_row_tie rfl ⟨rfl,rfl⟩ (by kernel_rfl) rfl
  (fun f fn hf hfn=>by
   obtain rfl:f=8:=Option.some.inj ((show Tryz.prog.funcNamed "scow/scowlaw12.ScanWild"=some 8 by kernel_rfl).symm.trans hf) |>.symm
   obtain rfl:fn=Tryz.f8:=(Option.some.inj (Tryz.func8.symm.trans hfn)).symm
   exact ⟨by kernel_rfl,fun j t ht=>by
    rw [Tryz.params8] at ht
    have h3:t=52\/t=23\/t=23:=by
     rcases j with _ | _ | _ | j
     ·exact .inl (by simpa using ht.symm)
     ·exact .inr (.inl (by simpa using ht.symm))
     ·exact .inr (.inr (by simpa using ht.symm))
     ·simp at ht
    rcases h3 with rfl | rfl | rfl
    ·exact (show Tryz.prog.wantsStandIn 52=false by kernel_rfl)
    ·exact (show Tryz.prog.wantsStandIn 23=false by kernel_rfl)
    ·exact (show Tryz.prog.wantsStandIn 23=false by kernel_rfl)⟩)
  (by kernel_rfl)
#print axioms proved
end Go.Proofs.YtgohffhoapkeaaaGreatDoor.scanWild
