/- A part of the proof of PoolBack. No condition of its own. -/
import Derived.Test.YtenfkghoolegfaaGreatDoorVz
import Derived.Test.YtenfkghoolegfaaGreatDoorVa
import Derived.Laws.BytesArg
import Derived.Laws.IdiomStrings
import Derived.MapFrom
import Derived.Deep.AppendSrc
set_option linter.unusedVariables false
namespace Go.Proofs.YtenfkghoolegfaaGreatDoor.Ev
open Go.RowKit
variable {ω:Nat->Value}
section
variable {C:Ctx} {B:Nat} {X:Aux} {m:M ω} {s s':AS} {w:World} {a:T Value} {act:Act} {n:Nat}
theorem bnd_sound (ht:TR m n a act) {x:Option Operand} {v:Option Int} (h:bnd a x=some v) :
 (x=none/\v=none)\/∃ o k q,x=some o/\v=some q/\act.eval o=.int k q:=by
 cases x with
 | none=>simp [bnd] at h;exact .inl ⟨rfl,h.symm⟩
 | some o =>
  simp only [bnd] at h
  cases h1:opnd a o with
  | none=>simp [h1] at h
  | some u =>
   rw [h1] at h
   cases u <;> try (simp at h;done)
   rename_i k q;simp at h;exact .inr ⟨o,k,q,rfl,h.symm,int_inv (oS ht h1)⟩
theorem chk_sound {v:Int} {y i:Nat} (h:chk v y=some i) (k:IntKind) (code:BoundsCode):(Instr.sliceBound (.int k v) y code).run C.P w=.ok i w:=by
 unfold chk at h
 split at h
 ·rename_i hb
  cases h
  simp [Instr.sliceBound,asIntOf,hb.1,hb.2]
 ·cases h
theorem cut_sound (ht:TR m n a act) (isSl:Bool) {k c:Nat} {lo hi mx:Option Operand} {l h x:Option Int} (h1:bnd a lo=some l) (h2:bnd a hi=some h) (h3:bnd a mx=some x) {r:Nat × Nat × Nat} (hc:cut k c l h x=some r) :
 (Instr.sliceBounds isSl k c (lo.map act.eval) (hi.map act.eval) (mx.map act.eval)).run C.P w=.ok r w:=by
 rcases bnd_sound ht h3 with ⟨rfl,rfl⟩ | ⟨ox,kx,qx,rfl,rfl,ex⟩
 ·simp only [cut] at hc
  rcases bnd_sound ht h2 with ⟨rfl,rfl⟩ | ⟨oh,kh,qh,rfl,rfl,eh⟩
  ·simp only [cutHi] at hc
   rcases bnd_sound ht h1 with ⟨rfl,rfl⟩ | ⟨ol,kl,ql,rfl,rfl,el⟩
   ·simp only [cutLo,Option.some.injEq] at hc;subst hc;simp [Instr.sliceBounds]
   ·simp only [cutLo] at hc
    split at hc
    ·rename_i i hi;simp only [Option.some.injEq] at hc;subst hc;simp [Instr.sliceBounds,el,chk_sound (C:=C) (w:=w) hi kl]
    ·cases hc
  ·simp only [cutHi] at hc
   split at hc
   ·rename_i hh hq
    rcases bnd_sound ht h1 with ⟨rfl,rfl⟩ | ⟨ol,kl,ql,rfl,rfl,el⟩
    ·simp only [cutLo,Option.some.injEq] at hc;subst hc;simp [Instr.sliceBounds,eh,chk_sound (C:=C) (w:=w) hq kh]
    ·simp only [cutLo] at hc
     split at hc
     ·rename_i i hi;simp only [Option.some.injEq] at hc;subst hc;simp [Instr.sliceBounds,el,chk_sound (C:=C) (w:=w) hi kl,eh,chk_sound (C:=C) (w:=w) hq kh]
     ·cases hc
   ·cases hc
 ·simp only [cut] at hc
  split at hc
  ·rename_i mm uu hq
   rcases bnd_sound ht h2 with ⟨rfl,e⟩ | ⟨oh,kh,qh,rfl,e,eh⟩
   ·cases e
   ·cases e
    simp only [cutHi] at hc
    split at hc
    ·rename_i hh hq2
     rcases bnd_sound ht h1 with ⟨rfl,rfl⟩ | ⟨ol,kl,ql,rfl,rfl,el⟩
     ·simp only [cutLo,Option.some.injEq] at hc;subst hc;simp [Instr.sliceBounds,eh,ex,chk_sound (C:=C) (w:=w) hq kx,chk_sound (C:=C) (w:=w) hq2 kh]
     ·simp only [cutLo] at hc
      split at hc
      ·rename_i i hi;simp only [Option.some.injEq] at hc;subst hc;simp [Instr.sliceBounds,el,chk_sound (C:=C) (w:=w) hi kl,eh,ex,chk_sound (C:=C) (w:=w) hq kx,chk_sound (C:=C) (w:=w) hq2 kh]
      ·cases hc
    ·cases hc
  ·cases hc
theorem chk_le {v:Int} {y i:Nat} (h:chk v y=some i):i<=y:=by
 unfold chk at h
 split at h
 ·cases h;omega
 ·cases h
theorem cut_le {k c:Nat} {lo hi mx:Option Int} {i j q:Nat} (hk:k<=c) (h:cut k c lo hi mx=some (i,j,q)):i<=j/\j<=q/\q<=c/\(mx=none->q=c):=by
 have low:∀ (hh mm:Nat),cutLo hh mm lo=some (i,j,q)->i<=hh/\j=hh/\q=mm:=by
  intro hh mm hr
  cases lo with
  | none=>simp [cutLo] at hr;omega
  | some v =>
   simp only [cutLo] at hr
   split at hr
   ·rename_i x hx;simp at hr;have:=chk_le hx;omega
   ·cases hr
 cases mx with
 | none =>
  simp only [cut] at h
  cases hi with
  | none=>simp only [cutHi] at h;have:=low _ _ h;exact ⟨by omega,by omega,by omega,fun _=>by omega⟩
  | some v =>
   simp only [cutHi] at h
   split at h
   ·rename_i x hx;have:=chk_le hx;have:=low _ _ h;exact ⟨by omega,by omega,by omega,fun _=>by omega⟩
   ·cases h
 | some v =>
  simp only [cut] at h
  split at h
  ·rename_i mm uu hq;simp only [cutHi] at h
   split at h
   ·rename_i x hx;have:=chk_le hx;have:=chk_le hq;have:=low _ _ h;exact ⟨by omega,by omega,by omega,fun e=>by cases e⟩
   ·cases h
  ·cases h
theorem cut_wider {k c c':Nat} {lo hi mx:Option Int} {i j q:Nat} (hc:c<=c') (h:cut k c lo hi mx=some (i,j,q)):∃ q',cut k c' lo hi mx=some (i,j,q')/\(q=q'\/(q=c/\q'=c')):=by
 have chkw:∀ (v:Int) (x:Nat),chk v c=some x->chk v c'=some x:=by
  intro v x hx;unfold chk at hx ⊢
  split at hx
  ·cases hx;rw [if_pos (by omega)]
  ·cases hx
 have low:∀ (hh mm mm':Nat) (l:Option Int),cutLo hh mm l=some (i,j,q)->q=mm/\cutLo hh mm' l=some (i,j,mm'):=by
  intro hh mm mm' l hr
  cases l with
  | none=>simp [cutLo] at hr ⊢;omega
  | some v =>
   simp only [cutLo] at hr ⊢
   split at hr
   ·rename_i x hx;simp at hr ⊢;omega
   ·cases hr
 cases mx with
 | none =>
  simp only [cut] at h ⊢
  cases hi with
  | none=>simp only [cutHi] at h ⊢;obtain ⟨e,h'⟩:=low _ _ c' _ h;exact ⟨c',h',.inr ⟨e,rfl⟩⟩
  | some v =>
   simp only [cutHi] at h ⊢
   split at h
   ·rename_i x hx;rw [chkw v x hx];obtain ⟨e,h'⟩:=low _ _ c' _ h;exact ⟨c',h',.inr ⟨e,rfl⟩⟩
   ·cases h
 | some v =>
  simp only [cut] at h ⊢
  split at h
  ·rename_i mm uu hq;rw [chkw v mm hq];exact ⟨q,h,.inl rfl⟩
  ·cases h
theorem cut_rel {p p':Addr} {c c' i j q sz:Nat} (ha:ARel m p p') (hle:i<=j/\j<=q) (hq:q<=c) (q':Nat) (h:q=q'\/(q=c/\q'=c'/\CRel m p c c'/\∀ x,m p.block=some x->x.opn=true->x.esz=sz)) :
 VRel m (.slice (some ⟨p.block,p.off+i*sz,p.spot⟩) (j-i) (q-i)) (.slice (if q'=i then some p' else some (p'.add (i*sz))) (j-i) (q'-i)):=by
 have hqq:q<=q':=by
  rcases h with rfl | ⟨rfl,rfl,hc,_⟩
  ·exact nR _
  ·rcases hc with rfl | ⟨h,_⟩
   ·exact nR _
   ·exact h
 by_cases hi:q'=i
 ·rw [if_pos hi,show j-i=0 by omega,show q-i=0 by omega,show q'-i=0 by omega];exact .slice0 _ _ (ha.2.imp fun i hi=>hi.1)
 ·rw [if_neg hi];refine .slice _ _ _ _ _ (addr_add ha) ?_ (by omega)
  rcases h with rfl | ⟨rfl,rfl,hc,hx⟩
  ·exact .inl rfl
  ·rcases hc with rfl | ⟨h1,x,h2,h3,h4,h5⟩
   ·exact .inl rfl
   ·have he:=hx x h2 h3;refine .inr ⟨by omega,x,h2,h3,?_,?_⟩
    ·show p.off+i*sz+(q-i)*x.esz=x.len;rw [he] at h4 ⊢;rw [Nat.add_assoc,<-Nat.add_mul,show i+(q-i)=q by omega];exact h4
    ·show x.d+(p.off+i*sz)+(q'-i)*x.esz<=x.tot;rw [he] at h5 ⊢
     have:i*sz+(q'-i)*sz=q'*sz:=by rw [<-Nat.add_mul];congr 1;omega
     omega
theorem slice_sound (hC:CtxOK ω C) (hs:SR B X m s w) (ht:TR m n a act) {t:TypeId} {x:Operand} {lo hi mx:Option Operand} {r:R} (h:opSlice t x lo hi mx C a s=some (r,s')) :
 OpOK C B X m s' w r ((do let z <-Instr.sliceAt t (act.eval x) (lo.map act.eval) (hi.map act.eval) (mx.map act.eval);pure (Next.value z):Sem Next).run C.P w):=by
 unfold opSlice at h
 split at h
 ·rename_i v l hh mm hx h1 h2 h3;have hv:=oS ht hx
  split at h
  ·rename_i e p k c hu;have hun:=hC.un t _ hu
   split at h
   ·rename_i i j q sz hcut hsz;obtain ⟨ti,hti,rfl⟩:=sizeT_sound hC hsz
    split at h
    ·cases h
     generalize hy:act.eval x=y at hv
     cases hv with
     | plain v hp =>
      have hkc:k=0/\c=0:=by
       cases k <;> cases c <;> simp [plainV] at hp <;> exact ⟨rfl,rfl⟩
      obtain ⟨rfl,rfl⟩:=hkc;have hb:=cut_sound (C:=C) (w:=w) ht true h1 h2 h3 hcut;have hle:=cut_le (nR 0) hcut
      have e1:i=0:=by omega
      have e2:j=0:=by omega
      have e3:q=0:=by omega
      subst e1 e2 e3;exact VOK.op (VOK.same hs (v':=.slice none 0 0) (by simp [Instr.sliceAt,Instr.slice,run_underlying hun,hb,sizeOf,typeInfo,hti]) (.plain _ rfl))
    ·rename_i ad;obtain ⟨p',c',hy,hor⟩:=slice_inv hv
     have fin:∀ (hb:∃ k,blkAt s ad.block=some k/\(k.opn=true->k.esz=ti.size)),some (R.val (.slice (some ⟨ad.block,ad.off+i*ti.size,ad.spot⟩) (j-i) (q-i)),s)=some (r,s') ->
      OpOK C B X m s' w r ((do let z <-Instr.sliceAt t (act.eval x) (lo.map act.eval) (hi.map act.eval) (mx.map act.eval);pure (Next.value z):Sem Next).run C.P w):=by
      rintro ⟨kb,hkb,hez⟩ he
      cases he
      obtain ⟨ib,g1⟩:=slice_map hv;obtain ⟨g2,⟨g3,g4,g5,_⟩,_,_⟩:=blk_at hs hkb g1
      rcases hor with ⟨hp,hcr,hkc⟩ | ⟨rfl,rfl,rfl⟩
      ·have hle:=cut_le hkc hcut
       obtain ⟨q',hb',hq'⟩:∃ q',(Instr.sliceBounds true k c' (lo.map act.eval) (hi.map act.eval) (mx.map act.eval)).run C.P w=.ok (i,j,q') w/\(q=q'\/(q=c/\q'=c')):=by
        rcases hcr with rfl | ⟨hcc,_⟩
        ·exact ⟨q,cut_sound (C:=C) (w:=w) ht true h1 h2 h3 hcut,.inl rfl⟩
        ·obtain ⟨q',h4,h5⟩:=cut_wider hcc hcut;exact ⟨q',cut_sound (C:=C) (w:=w) ht true h1 h2 h3 h4,h5⟩
       refine VOK.op (VOK.same hs (v':=.slice (if q'=i then some p' else some (p'.add (i*ti.size))) (j-i) (q'-i)) ?_ ?_)
       ·simp [Instr.sliceAt,Instr.slice,run_underlying hun,hy,hb',sizeOf,typeInfo,hti]
       ·refine cut_rel (c':=c') hp ⟨hle.1,hle.2.1⟩ hle.2.2.1 q' ?_
        rcases hq' with e | ⟨e1,e2⟩
        ·exact .inl e
        ·exact .inr ⟨e1,e2,hcr,fun x hx ho=>by rw [g1] at hx;cases hx;rw [g5];exact hez (by rw [<-g4];exact ho)⟩
      ·have hb:=cut_sound (C:=C) (w:=w) ht true h1 h2 h3 hcut;have hle:=cut_le (nR 0) hcut
       have e1:i=0:=by omega
       have e2:j=0:=by omega
       have e3:q=0:=by omega
       subst e1 e2 e3;exact VOK.op (VOK.same hs (v':=.slice (some p') 0 0) (by simp [Instr.sliceAt,Instr.slice,run_underlying hun,hy,hb,sizeOf,typeInfo,hti]) (.slice0 _ _ ⟨ib,g1⟩))
     split at h
     ·rename_i kb hkb
      cases ho:kb.opn with
      | false=>rw [ho] at h;exact fin ⟨kb,hkb,fun e=>by rw [ho] at e;cases e⟩ h
      | true =>
       rw [ho] at h
       cases hz:Nat.beq kb.esz ti.size with
       | false=>rw [hz] at h;cases h
       | true=>rw [hz] at h;exact fin ⟨kb,hkb,fun _=>bE hz⟩ h
     ·cases h
   ·cases h
  ·rename_i b hu;have hun:=hC.un t _ hu;have hy:=str_inv hv
   split at h
   ·rename_i i j q hcut
    cases h
    rcases bnd_sound ht h3 with ⟨rfl,_⟩ | ⟨_,_,_,_,e,_⟩
    ·have hb:=cut_sound (C:=C) (w:=w) (mx:=none) ht false h1 h2 h3 hcut;exact VOK.op (VOK.same hs (v':=.string (b.extract i j)) (by simp at hb;simp [Instr.sliceAt,Instr.slice,run_underlying hun,hy,hb]) (.plain _ rfl))
    ·cases e
   ·cases h
  ·rename_i k e ad hu;have hun:=hC.un t _ hu;obtain ⟨p',hp,hy⟩:=ptr_inv hv
   split at h
   ·rename_i i j q sz hcut hsz
    cases h
    obtain ⟨ti,hti,rfl⟩:=sizeT_sound hC hsz;have hb:=cut_sound (C:=C) (w:=w) ht false h1 h2 h3 hcut;have hle:=cut_le (nR _) hcut;refine VOK.op (VOK.same hs (v':=.slice (if q=i then some p' else some (p'.add (i*ti.size))) (j-i) (q-i)) ?_ (cut_rel (c':=q) hp ⟨hle.1,hle.2.1⟩ (nR _) q (.inl rfl)));simp [Instr.sliceAt,run_underlying hun,hy,Instr.sureAddr,hb,sizeOf,typeInfo,hti]
    split <;> rfl
   ·cases h
  ·cases h
 ·cases h
theorem repL_len (z:List Value):∀ k,(repL k z).length=k*z.length
 | 0=>by simp [repL]
 | k+1=>by rw [repL,lQ,repL_len z k,Nat.add_mul];omega
theorem repL_get (z:List Value):∀ (k i:Nat),i<k*z.length->(repL k z)[i]?=z[i % z.length]?
 | 0,i,h=>by simp at h
 | k+1,i,h=>by
  rw [repL];by_cases hi:i<z.length
  ·rw [List.getElem?_append_left hi,Nat.mod_eq_of_lt hi]
  ·rw [List.getElem?_append_right (by omega),repL_get z k (i-z.length) (by rw [Nat.add_mul] at h;omega)];congr 1;rw [<-Nat.mod_eq_sub_mod (by omega)]
theorem repL_plain (z:List Value) (h:z.all plainV=true):∀ k,(repL k z).all plainV=true
 | 0=>rfl
 | k+1=>by rw [repL,List.all_append,h,repL_plain z h k];rfl
theorem rep_arr (z:Array Value) (k:Nat):(Array.range (k*z.size)).map (fun i=>z[i % z.size]!)=(repL k z.toList).toArray:=by
 apply Array.ext';apply List.ext_getElem?;intro i;by_cases hi:i<k*z.size
 ·have hz:0<z.size:=by
   rcases Nat.eq_zero_or_pos z.size with h | h
   ·rw [h] at hi;simp at hi
   ·exact h
  have hm:i % z.size<z.size:=Nat.mod_lt _ hz;show _=(repL k z.toList)[i]?;rw [repL_get z.toList k i (by simpa using hi)];simp [hi,hm]
 ·rw [List.getElem?_eq_none (by simp;omega),List.getElem?_eq_none (by simp [repL_len];omega)]
theorem makeSlice_new (hC:CtxOK ω C) (ht:TR m n a act) (hB:B<=w.heap.size) {t:TypeId} {l c:Operand} {o:AObj} {f:Nat->Value} (h:alMakeSlice t l c C a=some (o,f)) :
 NewOK B m w o f ((do let z <-Instr.makeSlice t (act.eval l) (act.eval c);pure (Next.value z):Sem Next).run C.P w):=by
 unfold alMakeSlice at h
 split at h
 ·rename_i e kq q kk k hu hl hc;have hun:=hC.un t _ hu;have hl':=int_inv (oS ht hl);have hc':=int_inv (oS ht hc)
  split at h
  ·rename_i ti z hti hz
   split at h
   ·rename_i hb;simp only [Option.some.injEq,Prod.mk.injEq] at h;obtain ⟨rfl,rfl⟩:=h;obtain ⟨i,v,hi,hzv,rfl,hp,hlen⟩:=zeroC_sound hC hz;have hti':=hC.ty _ _ hti;rw [hi] at hti';cases hti'
    refine ⟨.slice (some ⟨w.heap.size,0,none⟩) q.toNat k.toNat,w.alloc (.cells (repL k.toNat (cellsOf v)).toArray e),_,?_,rfl,by simp,fun k hk=>Below.heap_alloc w _ k hk,(bR _ _).alloc hB _,
     blk_new (LRel.plain (m:=m) (repL_plain _ hp k.toNat)) e 0,fun m' b hb=>.slice _ _ _ _ _ ⟨rfl,_,hb,rfl⟩ (.inl rfl) (by omega)⟩
    have hby:(ti.bytes:Int)*k<=281474976710656:=by
     have h1:(ti.bytes:Int)*k<=1000000*1000000:=Int.mul_le_mul (by omega) hb.2.2.1 (by omega) (by omega);omega
    have hsz:v.cells.size=ti.size:=by rw [cells_arr,hlen];simp
    have hmk:=run_make (P:=C.P) w t e ti v hun hi hzv kq kk q k hb.1 hb.2.1 hby (by omega);rw [hl',hc'];simp only [Sem.run_bind,hmk,Result.andThen,Sem.run_pure];unfold madeCells;rw [<-hsz,rep_arr,cells_list]
   ·cases h
  ·cases h
 ·cases h
end
end Go.Proofs.YtenfkghoolegfaaGreatDoor.Ev
namespace Go.Proofs.YtenfkghoolegfaaGreatDoor.Ev
open Go.RowKit
variable {ω:Nat->Value}
section
variable {C:Ctx} {B:Nat} {X:Aux} {m:M ω} {s s':AS} {w:World} {a:T Value} {act:Act} {n:Nat}
theorem agg_inv {cs:Array Value} {v:Value} (h:VRel m (.agg cs) v):∃ cs',v=.agg cs'/\LRel m cs.toList cs'.toList:=by
 cases h with
 | plain v h=>simp [plainV] at h
 | agg cs cs' hs h=>exact ⟨cs',rfl,LRel.of_arr hs h⟩
theorem LRel.drop {l l':List Value} (h:LRel m l l') (k:Nat):LRel m (l.drop k) (l'.drop k) :=
 ⟨by simp [h.1],fun i a b ha hb=>h.2 (k+i) a b (by rwa [List.getElem?_drop] at ha) (by rwa [List.getElem?_drop] at hb)⟩
theorem LRel.take {l l':List Value} (h:LRel m l l') (k:Nat):LRel m (l.take k) (l'.take k) :=
 ⟨by simp [h.1],fun i a b ha hb=>by
  rw [List.getElem?_take] at ha hb
  split at ha
  ·rename_i hi;rw [if_pos hi] at hb;exact h.2 i a b ha hb
  ·cases ha⟩
theorem LRel.at_ {l l':List Value} (h:LRel m l l') {k:Nat} {v:Value} (hv:l[k]?=some v):∃ v',l'[k]?=some v'/\VRel m v v':=by
 have hk:=(lS.1 hv).1
 have hk':k<l'.length:=by rw [<-h.1];exact hk
 exact ⟨l'[k],gE hk',h.2 k _ _ hv (gE hk')⟩
theorem part_sound (hC:CtxOK ω C) {t:TypeId} {cs cs':Array Value} (hl:LRel m cs.toList cs'.toList) {off:Nat} {v:Value}
 (h:(match isAggT C t,sizeT C t with
  | some true,some k=>some (.agg ((cs.toList.drop off).take k).toArray)
  | some false,_=>cs.toList[off]?
  | _,_=>none)=some v):∃ v',(part t cs' off).run C.P w=.ok v' w/\VRel m v v':=by
 cases h1:isAggT C t with
 | none=>simp [h1] at h
 | some b =>
  cases b with
  | true =>
   cases h2:sizeT C t with
   | none=>simp [h1,h2] at h
   | some k =>
    simp only [h1,h2,Option.some.injEq] at h;subst h;obtain ⟨i,hi,rfl⟩:=sizeT_sound hC h2;refine ⟨.agg ((cs'.toList.drop off).take i.size).toArray,?_,(LRel.take (LRel.drop hl off) i.size).agg⟩
    have e:cs'.extract off (off+i.size)=((cs'.toList.drop off).take i.size).toArray:=by
     apply Array.ext';rw [Array.toList_extract];simp [List.extract_eq_take_drop]
    simp [part,isAgg_sound hC h1,sizeOf,typeInfo,hi,e]
  | false =>
   simp only [h1] at h;obtain ⟨v',h2,h3⟩:=hl.at_ h;refine ⟨v',?_,h3⟩
   have e:cs'[off]?=some v':=by rw [<-Array.getElem?_toList];exact h2
   simp [part,isAgg_sound hC h1,e]
theorem field_sound (hC:CtxOK ω C) (hs:SR B X m s w) (ht:TR m n a act) {t:TypeId} {x:Operand} {f:Nat} {r:R} (h:opField t x f C a s=some (r,s')) :
 OpOK C B X m s' w r ((do let z <-Instr.field t (act.eval x) f;pure (Next.value z):Sem Next).run C.P w):=by
 unfold opField at h
 split at h
 ·rename_i fs cs hu hx;have hun:=hC.un t _ hu;obtain ⟨cs',hy,hl⟩:=agg_inv (oS ht hx)
  split at h
  ·rename_i fl hf
   have hf':fs[f]?=some fl:=by unfold fieldAt at hf;simpa using hf
   have go:∀ v,(match isAggT C fl.type,sizeT C fl.type with
    | some true,some k=>some (.agg ((cs.toList.drop fl.offset).take k).toArray)
    | some false,_=>cs.toList[fl.offset]?
    | _,_=>none)=some v->some (R.val v,s)=some (r,s')->OpOK C B X m s' w r ((do let z <-Instr.field t (act.eval x) f;pure (Next.value z):Sem Next).run C.P w):=by
    intro v hv he
    cases he
    obtain ⟨v',hr,hrel⟩:=part_sound (w:=w) hC hl hv;exact VOK.op (VOK.same hs (by simp [Instr.field,run_underlying hun,hf',hy,asAgg,hr]) hrel)
   split at h
   ·rename_i k h1 h2;exact go _ (by rw [h1,h2]) h
   ·rename_i _ h1
    split at h
    ·rename_i v hv;exact go v (by rw [h1];exact hv) h
    ·cases h
   ·cases h
  ·cases h
 ·cases h
theorem index_sound (hC:CtxOK ω C) (hs:SR B X m s w) (ht:TR m n a act) {t:TypeId} {x i:Operand} {r:R} (h:opIndex t x i C a s=some (r,s')) :
 OpOK C B X m s' w r ((do let z <-Instr.index t (act.eval x) (act.eval i);pure (Next.value z):Sem Next).run C.P w):=by
 unfold opIndex at h
 split at h
 ·rename_i b kk q hu hx hi;have hun:=hC.un t _ hu;have hy:=str_inv (oS ht hx);have hi':=int_inv (oS ht hi)
  split at h
  ·rename_i hq
   split at h
   ·rename_i c hc
    cases h
    exact VOK.op (VOK.same hs (v':=.int .u8 c.toNat) (by simp [Instr.index,run_underlying hun,hy,hi',asIntOf,hq,hc]) (.plain _ rfl))
   ·cases h
  ·cases h
 ·rename_i k e cs kk q hu hx hi;have hun:=hC.un t _ hu;obtain ⟨cs',hy,hl⟩:=agg_inv (oS ht hx);have hi':=int_inv (oS ht hi)
  split at h
  ·rename_i hq
   split at h
   ·rename_i sz h1 h2
    cases h
    obtain ⟨ti,hti,e2⟩:=sizeT_sound hC h2;obtain ⟨v',hr,hrel⟩:=part_sound (w:=w) (off:=q.toNat*ti.size) (v:=.agg ((cs.toList.drop (q.toNat*sz)).take sz).toArray) hC hl (by rw [h1,h2,e2]);exact VOK.op (VOK.same hs (by simp [Instr.index,run_underlying hun,hy,hi',asIntOf,hq.1,hq.2,sizeOf,typeInfo,hti,hr]) hrel)
   ·rename_i sz h1 h2;obtain ⟨ti,hti,e2⟩:=sizeT_sound hC h2
    split at h
    ·rename_i v hv
     cases h
     obtain ⟨v',hr,hrel⟩:=part_sound (w:=w) (off:=q.toNat*ti.size) (v:=v) hC hl (by rw [h1,e2];exact hv);exact VOK.op (VOK.same hs (by simp [Instr.index,run_underlying hun,hy,hi',asIntOf,hq.1,hq.2,sizeOf,typeInfo,hti,hr]) hrel)
    ·cases h
   ·cases h
  ·cases h
 ·cases h
theorem least_none {l:List String}:Instr.least l=none↔l=[]:=by cases l <;> simp [Instr.least]
theorem missB_none {want:Array (String × TypeId)} {got:Array Method}:missB want got=false↔Instr.missingMethod want got=none:=by
 unfold missB Instr.missingMethod;simp only [Option.orElse_eq_orElse,Option.orElse_eq_or,Option.or_eq_none_iff,least_none,List.map_eq_nil_iff,List.partition_eq_filter_filter];rw [Bool.not_eq_false',List.all_eq_true];constructor
 ·intro h
  have e:want.toList.filter (fun x=>!got.any fun m=>m.name==x.1 && m.sig==x.2)=[]:=by
   rw [List.filter_eq_nil_iff];intro p hp;have:=h p hp;unfold hasM at this
   simpa using this
  exact ⟨by simp [e],by simp [e]⟩
 ·rintro ⟨h1,h2⟩ p hp;unfold hasM
  cases hg:got.toList.any fun m=>m.name==p.1 && m.sig==p.2 with
  | true=>rfl
  | false =>
   exfalso;have hm:p.1∈(want.toList.filter (fun x=>!got.any fun m=>m.name==x.1 && m.sig==x.2)).map (·.1):=List.mem_map.2 ⟨p,List.mem_filter.2 ⟨hp,by simpa using hg⟩,rfl⟩;rw [List.filter_eq_nil_iff] at h1 h2;have a1:=h1 _ hm;have a2:=h2 _ hm
   cases hc:p.1.contains (Char.ofNat 46) with
   | true=>exact a2 hc
   | false=>exact a1 (by show (!(p.1.contains (Char.ofNat 46)))=true;rw [hc];rfl)
theorem typeAssert_sound (hC:CtxOK ω C) (hs:SR B X m s w) (ht:TR m n a act) {x:Operand} {xt t:TypeId} {ok:Bool} {r:R} (h:opTypeAssert x t ok C a s=some (r,s')) :
 OpOK C B X m s' w r ((do let z <-Instr.typeAssert (act.eval x) xt t ok;pure (Next.value z):Sem Next).run C.P w):=by
 have two:∀ {u u':Value} (b:Bool),VRel m u u'->VRel m (.tuple #[u,.bool b]) (.tuple #[u',.bool b]):=fun b hv =>
  (LRel.cons hv (LRel.cons (.plain (.bool b) rfl) (LRel.nil m))).tuple
 have holds:∀ {u u':Value},VRel m u u'->VRel m (cond ok (.tuple #[u,.bool true]) u) (if ok then .tuple #[u',.bool true] else u'):=fun hv=>by
  cases ok
  ·exact hv
  ·exact two true hv
 have fail:failA C t ok s=some (r,s')->∃ z,ok=true/\r=.val (.tuple #[z,.bool false])/\s'=s/\VRel m (.tuple #[z,.bool false]) (.tuple #[z,.bool false])/\(zeroValue t).run C.P w=.ok z w:=by
  intro h;unfold failA at h
  split at h
  ·rename_i ti hti
   split at h
   ·rename_i z hz
    cases hk:(ok && closedV z) with
    | false=>simp [hk] at h
    | true =>
     simp only [hk,cond_true,Option.some.injEq,Prod.mk.injEq] at h;obtain ⟨rfl,rfl⟩:=h;rw [Bool.and_eq_true] at hk;have hti':=hC.ty _ _ hti;exact ⟨z,hk.1,rfl,rfl,two false (closed_refl hk.2),by simp [zeroValue,typeInfo,hti',hz]⟩
   ·cases h
  ·cases h
 unfold opTypeAssert at h
 split at h
 ·cases h
 ·rename_i u v want hx hu;have hun:=hC.un t _ hu;obtain ⟨v',hv,hy⟩:=iface_inv (oS ht hx)
  split at h
  ·rename_i ui hui;have hti:=hC.ty _ _ hui
   split at h
   ·rename_i hm;rw [missB_none] at hm
    cases h
    exact VOK.op (VOK.same hs (v':=if ok then .tuple #[.iface u v',.bool true] else .iface u v') (by simp [Instr.typeAssert,run_underlying hun,hy,typeInfo,hti,hm]) (holds (.iface u _ _ hv)))
   ·rename_i hm
    obtain ⟨mm,hm⟩:∃ mm,Instr.missingMethod want ui.methods=some mm:=by
     cases hq:Instr.missingMethod want ui.methods with
     | some mm=>exact ⟨mm,rfl⟩
     | none=>rw [missB_none.2 hq] at hm;cases hm
    obtain ⟨z,rfl,rfl,rfl,hz,hzr⟩:=fail h;exact VOK.op (VOK.same hs (v':=.tuple #[z,.bool false]) (by simp [Instr.typeAssert,run_underlying hun,hy,typeInfo,hti,hm,hzr]) hz)
  ·cases h
 ·rename_i u v d hne hx hu;have hun:=hC.un t _ hu;obtain ⟨v',hv,hy⟩:=iface_inv (oS ht hx)
  cases hb:Nat.beq u t with
  | true =>
   have hut:=bE hb;simp only [hb,cond_true,Option.some.injEq,Prod.mk.injEq] at h;obtain ⟨rfl,rfl⟩:=h;refine VOK.op (VOK.same hs (v':=if ok then .tuple #[v',.bool true] else v') ?_ (holds hv))
   cases d <;> first | (exact absurd rfl (hne _)) | simp [Instr.typeAssert,run_underlying hun,hy,hut]
  | false =>
   have hut:=Nat.ne_of_beq_eq_false hb;simp only [hb,cond_false] at h;obtain ⟨z,rfl,rfl,rfl,hz,hzr⟩:=fail h;refine VOK.op (VOK.same hs (v':=.tuple #[z,.bool false]) ?_ hz)
   cases d <;> first | (exact absurd rfl (hne _)) | simp [Instr.typeAssert,run_underlying hun,hy,hut,hzr]
 ·cases h
theorem bytes_sound:∀ {l:List Value} {bs:List UInt8},bytesOf l=some bs->∃ q:List Int,l=q.map (Value.int .u8)/\bs=q.map fun x=>UInt8.ofNat x.toNat
 | [],bs,h=>by simp [bytesOf] at h;subst h;exact ⟨[],rfl,rfl⟩
 | v::l,bs,h=>by
  unfold bytesOf at h
  split at h
  ·rename_i heq;cases heq
  ·rename_i n r heq
   injection heq with h1 h2
   subst h1;subst h2
   split at h
   ·rename_i l' hl
    cases h
    obtain ⟨q,e1,e2⟩:=bytes_sound hl;exact ⟨n::q,by rw [e1];rfl,by rw [e2];rfl⟩
   ·cases h
  ·cases h
theorem isU8_un (hC:CtxOK ω C) {e:TypeId} (h:isU8 (C.un e)=true):C.P.underlying e=some (.int .u8):=by
 unfold isU8 at h
 split at h
 ·rename_i hu;exact hC.un e _ hu
 ·cases h
theorem LRel.ints {l:List Int} {l':List Value} (h:LRel m (l.map (Value.int .u8)) l'):l'=l.map (Value.int .u8):=by
 apply List.ext_getElem?;intro i;by_cases hi:i<l.length
 ·obtain ⟨v',h1,h2⟩:=h.at_ (k:=i) (v:=.int .u8 l[i]) (by simp [hi]);rw [h1,int_inv h2];simp [hi]
 ·rw [List.getElem?_eq_none (by rw [<-h.1];simp;omega),List.getElem?_eq_none (by simp;omega)]
theorem open_new {w1:World} {l:List Value} {c':Array Value} {e:TypeId} {fz:Nat × Nat} (str:Bool) (z r:Nat) (hw:w1.heap[r]?=some (.cells c' e fz)) (hfz:fz=(0,0)\/(fz=(c'.size,c'.size+1)/\Nat.beq e noMark=false))
 (hle:l.length<=c'.size) (hrel:∀ (j:Nat) (v:Value),l[j]?=some v->∃ v',c'[j]?=some v'/\VRel m v v') :
 ORel m w1 ⟨r,0,l.length,z,true,c'.size⟩ (blkOf l e z true str):=by
 refine ⟨rfl,rfl,rfl,by simpa using hle,c',fz,hw,rfl,fun j hj=>?_,hfz⟩;have hj':j<l.length:=hj;obtain ⟨v',h1,h2⟩:=hrel j l[j] (gE hj');refine ⟨l[j],v',?_,by simpa using h1,h2⟩;rw [T.get_ofList,if_pos (by simp;omega)];simp
theorem newOpen_sound (hs:SR B X m s w) (hB:B<=w.heap.size) {w1:World} (hsz:w1.heap.size=w.heap.size+1) (hold:∀ k,k<w.heap.size->w1.heap[k]?=w.heap[k]?)
 {l:List Value} {c':Array Value} {e:TypeId} {fz:Nat × Nat} (str:Bool) (z:Nat) (hw:w1.heap[w.heap.size]?=some (.cells c' e fz)) (hfz:fz=(0,0)\/(fz=(c'.size,c'.size+1)/\Nat.beq e noMark=false))
 (hle:l.length<=c'.size) (hrel:∀ (j:Nat) (v:Value),l[j]?=some v->∃ v',c'[j]?=some v'/\VRel m v v') :
 SR B X (ext m s.n ⟨w.heap.size,0,l.length,z,true,c'.size⟩) (newBlk s l l.length e z true str).2 w1/\Le m (ext m s.n ⟨w.heap.size,0,l.length,z,true,c'.size⟩) :=
 new_sound hs _ _ hB rfl hsz hold (open_new str z _ hw hfz hle hrel)
theorem below_freeze' {a:World} (h:Below B a w) {p:Addr} (hp:B<=p.block) (k:Nat):Below B a (w.freeze p k):=by
 refine h.trans ?_;unfold World.freeze
 split
 ·exact bR B w
 ·exact ⟨rfl,rfl,rfl,by simp,fun k hk=>by
   simp only [Array.getElem?_modify]
   rw [if_neg (by omega)]⟩
theorem SR.congr {s':AS} (h:SR B X m s w) (hg:∀ b,s'.h.get b=s.h.get b) (hn:s'.n=s.n):SR B X m s' w :=
 ⟨fun b o i h1=>h.rel b o i (by rw [<-hg];exact h1),fun b c o p i j h1 h2=>h.inj b c o p i j (by rw [<-hg];exact h1) (by rw [<-hg];exact h2),
  fun b hb=>by rw [hg];exact h.freshH b (by rw [<-hn];exact hb),fun b hb=>h.freshM b (by rw [<-hn];exact hb),
  fun b o hb=>by rw [hg];exact h.gh b o hb,h.kp,h.lt⟩
theorem mark_sound (h:SR B X m s w) {p p':Addr} {k:Blk} (hk:blkAt s p.block=some k) (hnm:Nat.beq k.elem noMark=false) (hp:ARel m p p') :
 ∃ w',(markStringish p').run C.P w=.ok () w'/\SR B X m s w'/\Below B w w':=by
 obtain ⟨hs,i,h1,rfl⟩:=hp;obtain ⟨h2,⟨a1,a2,a3,a4,c',fz,hw,hsz,hcell,hfz⟩,h4,h5⟩:=blk_at h hk h1
 have hshape:w.shape? i.r=some (k.elem,c'.size):=by unfold World.shape?;rw [hw]
 have hlook:(w.freeze ⟨i.r,c'.size,none⟩ 1).heap[i.r]?=some (.cells c' k.elem (i.tot,i.tot+1)):=by
  unfold World.freeze;rw [if_neg (by decide)];show (w.heap.modify i.r _)[i.r]?=_;rw [Array.getElem?_modify,if_pos rfl,hw]
  rcases hfz with rfl | ⟨rfl,_⟩ <;> simp [hsz]
 refine ⟨w.freeze ⟨i.r,c'.size,none⟩ 1,by simp [markStringish,hshape],(upd_sound (o':=.cells k) h h2 rfl h1 ?_ ?_ ?_).congr (fun b=>?_) rfl,?_⟩
 ·unfold World.freeze;rw [if_neg (by decide)];simp
 ·intro q hq;unfold World.freeze;rw [if_neg (by decide)];show (w.heap.modify i.r _)[q]?=_;rw [Array.getElem?_modify,if_neg (fun e=>hq e.symm)]
 ·exact ⟨a1,a2,a3,a4,c',_,hlook,hsz,hcell,.inr ⟨rfl,hnm⟩⟩
 ·rw [T.get_put]
  split
  ·rename_i e;rw [e];exact h2
  ·rfl
 ·exact below_freeze' (bR B w) h4 1
theorem conv2_sound (hC:CtxOK ω C) (hs:SR B X m s w) (ht:TR m n a act) {src dst:TypeId} {x:Operand} {r:R} (h:opConv2 src dst x C a s=some (r,s')) :
 OpOK C B X m s' w r ((do let z <-convert src dst (act.eval x);pure (Next.value z):Sem Next).run C.P w):=by
 unfold opConv2 at h
 cases h1:opnd a x with
 | none=>simp [h1] at h
 | some u =>
  have hu:=oS ht h1
  cases h2:convV C src dst u s with
  | none=>simp [h1,h2] at h
  | some p =>
   obtain ⟨v,s2⟩:=p;simp only [h1,h2,Option.some.injEq,Prod.mk.injEq] at h;obtain ⟨rfl,rfl⟩:=h;refine VOK.op ?_;generalize act.eval x=y at hu;clear h1;unfold convV at h2
   cases hch:isChan u with
   | true =>
    rw [hch] at h2;simp only [cond_true,convTok] at h2
    split at h2
    ·rename_i v1 hv1
     cases h2
     obtain ⟨v',hr,hv⟩:=hC.cnv src dst u v hv1 m y w hu;exact VOK.same hs hr hv
    ·cases h2
   | false =>
   rw [hch] at h2;simp only [cond_false] at h2
   split at h2
   ·rename_i d hd;have hds:=hC.un _ _ hd
    split at h2
    ·rename_i k hk;have hdd:=hC.un _ _ hk;unfold convInt at h2
     split at h2
     ·cases h2;obtain rfl:=int_inv hu
      exact VOK.same hs (by rw [wrapN_eq];cases d <;> simp [convert,run_underlying hds,run_underlying hdd,Conv.intToInt]) (.plain _ rfl)
     ·cases h2;obtain rfl:=int_inv hu
      exact VOK.same hs (by cases d <;> simp [convert,run_underlying hds,run_underlying hdd,Conv.intToInt]) (.plain _ rfl)
     ·cases h2
    ·rename_i hk;have hdd:=hC.un _ _ hk;unfold convStr at h2
     split at h2
     ·cases h2;obtain rfl:=str_inv hu
      exact VOK.same hs (by cases d <;> simp [convert,run_underlying hds,run_underlying hdd]) (.plain _ rfl)
     ·rename_i e
      cases hb:isU8 (C.un e) with
      | false=>simp [hb] at h2
      | true =>
       simp only [hb,cond_true,Option.some.injEq,Prod.mk.injEq] at h2;obtain ⟨rfl,rfl⟩:=h2;obtain rfl:=nilsl_inv hu;exact VOK.same hs (run_convert_bytes_nil w src e hds (isU8_un hC hb) 0 0 dst hdd) (.plain _ rfl)
     ·rename_i ad k c e
      cases hb:isU8 (C.un e) with
      | false=>simp [hb] at h2
      | true =>
       simp only [hb,cond_true] at h2
       split at h2
       ·rename_i l hl
        split at h2
        ·rename_i bs hbs
         cases h2
         obtain ⟨q,rfl,rfl⟩:=bytes_sound hbs;obtain ⟨p',c',hy,hor⟩:=slice_inv hu;subst hy
         have hload:(loadCells p' k).run C.P w=.ok (q.map (Value.int .u8)).toArray w:=by
          rcases hor with ⟨hp,_,_⟩ | ⟨rfl,_,_⟩
          ·obtain ⟨l',g1,g2,g3⟩:=readN_sound hs hl hp;have:=run_loadCells_list (P:=C.P) w p' l' g3;rw [g2,g1.ints] at this;exact this
          ·have hq:q=[]:=by
            unfold readN at hl
            split at hl
            ·rename_i kk _ hk2;simp only [Nat.add_zero,T.range] at hl
             cases hbb:Nat.ble ad.off kk.len with
             | false=>rw [hbb] at hl;cases hl
             | true=>rw [hbb] at hl;cases q with | nil=>rfl | cons _ _=>simp at hl
            ·cases hl
           subst hq;simp [loadCells,loadCellsFrom]
         refine VOK.same hs ?_ (.plain _ rfl);rw [run_convert_bytes_string w src dst e _ k c' hds (isU8_un hC hb) hdd,run_bytesToString w p' k c' q hload,foldl_push_bytes];simp [ByteArray.empty,ByteArray.emptyWithCapacity];rfl
        ·cases h2
       ·cases h2
     ·cases h2
    ·rename_i e hk;have hdd:=hC.un _ _ hk;unfold convSl at h2
     split at h2
     ·rename_i ad k c e'
      cases hb:(Nat.beq src dst && isU8 (C.un e) && Nat.blt 0 c) with
      | false=>simp [hb] at h2
      | true =>
       simp only [hb,cond_true] at h2;rw [Bool.and_eq_true,Bool.and_eq_true] at hb;have hsd:=bE hb.1.1
       split at h2
       ·rename_i kb hkb
        cases hnm:Nat.beq kb.elem noMark with
        | true=>rw [hnm] at h2;cases h2
        | false =>
        rw [hnm] at h2
        cases h2
        obtain ⟨p',c',hy,hor⟩:=slice_inv hu;subst hy
        rcases hor with ⟨hp,hcr,hkc⟩ | ⟨rfl,rfl,rfl⟩
        ·obtain ⟨w',g1,g2,g3⟩:=mark_sound (C:=C) hs hkb hnm hp;refine ⟨_,w',m,?_,Le.refl _,g2,g3,.slice _ _ _ _ _ hp hcr hkc⟩;simp [convert,run_underlying hdd,hsd,run_underlying (isU8_un hC hb.1.2),g1]
        ·exact absurd hb.2 (by decide)
       ·cases h2
     ·cases h2
    ·cases h2
   ·cases h2
theorem conv_new (hC:CtxOK ω C) (ht:TR m n a act) (hB:B<=w.heap.size) {src dst:TypeId} {x:Operand} {o:AObj} {f:Nat->Value} (h:alConv src dst x C a=some (o,f)) :
 NewOK B m w o f ((do let z <-convert src dst (act.eval x);pure (Next.value z):Sem Next).run C.P w):=by
 unfold alConv at h
 split at h
 ·rename_i e b hs hd hx
  cases hb0:(isU8 (C.un e) && !Nat.beq e noMark) with
  | false=>simp [hb0] at h
  | true =>
   simp only [hb0,cond_true,Option.some.injEq,Prod.mk.injEq] at h;rw [Bool.and_eq_true] at hb0;obtain ⟨hb,hnm⟩:=hb0
   replace hnm:Nat.beq e noMark=false:=by simpa using hnm
   obtain ⟨rfl,rfl⟩:=h;have hds:=hC.un _ _ hs;have hdd:=hC.un _ _ hd;rw [str_inv (oS ht hx)];have hrun:=run_bytes_of_string (P:=C.P) w src dst e b hds hdd (isU8_un hC hb);have hcap:=grownCap_ge w b.size 0 e
   have hrow:(bytesRow b (grownCap w b.size 0 e)).size=grownCap w b.size 0 e:=by have:b.data.size=b.size:=rfl;simp [bytesRow];omega
   have hbs:(b.data.toList.map fun x=>Value.int .u8 x.toNat).length=b.size:=by simp
   have hnew:=open_new (m:=m) (w1:=w.drew.alloc (.cells (bytesRow b (grownCap w b.size 0 e)) e ((bytesRow b (grownCap w b.size 0 e)).size,(bytesRow b (grownCap w b.size 0 e)).size+1)))
    (l:=b.data.toList.map fun x=>Value.int .u8 x.toNat) (c':=bytesRow b (grownCap w b.size 0 e)) (e:=e) true 1 w.heap.size
    (heap_alloc_new w.drew _) (.inr ⟨rfl,hnm⟩) (by rw [hbs,hrow];exact hcap) (fun j v hj=>by
     have hj':=(lS.1 hj).1;refine ⟨v,?_,?_⟩
     ·rw [<-Array.getElem?_toList,bytesRow,Array.toList_append,List.getElem?_append_left (by simpa using hj'),Array.toList_map];exact hj
     ·rw [List.getElem?_map] at hj
      cases hq:b.data.toList[j]? with
      | none=>rw [hq] at hj;cases hj
      | some q=>rw [hq] at hj;cases hj;exact .plain _ rfl)
   rw [hrow] at hrun hnew;rw [hbs] at hnew;refine ⟨.slice (some ⟨w.heap.size,0,none⟩) b.size (grownCap w b.size 0 e),_,_,by simp only [Sem.run_bind,hrun,Result.andThen,Sem.run_pure],rfl,by simp,fun k hk=>Below.heap_alloc w.drew _ k hk,((bR B w).drew).alloc hB _,hnew,fun m' b' hb'=>?_⟩;refine .slice _ _ _ _ _ ⟨rfl,_,hb',rfl⟩ (.inr ⟨hcap,_,hb',rfl,?_,?_⟩) (nR _)
   ·simp
   ·simp
 ·cases h
end
end Go.Proofs.YtenfkghoolegfaaGreatDoor.Ev
namespace Go.Proofs.YtenfkghoolegfaaGreatDoor.Ev
open Go.RowKit
variable {ω:Nat->Value}
section
variable {C:Ctx} {B:Nat} {X:Aux} {m:M ω} {s s':AS} {w:World} {a:T Value} {act:Act} {n:Nat}
def PRel (m:M ω):List (Nat × Value)->List (Nat × Value)->Prop
 | [],[]=>True
 | (i,v)::r,(j,v')::r'=>i=j/\VRel m v v'/\PRel m r r'
 | _,_=>False
theorem parts_sound (ht:TR m n a act):∀ {l:List (Nat × Operand)} {ps:List (Nat × Value)},parts a l=some ps->PRel m ps (l.map fun (i,x)=>(i,act.eval x))
 | [],ps,h=>by simp [parts] at h;subst h;trivial
 | (i,x)::l,ps,h=>by
  simp only [parts] at h
  cases h1:opnd a x with
  | none=>simp [h1] at h
  | some v =>
   cases h2:parts a l with
   | none=>simp [h1,h2] at h
   | some vs =>
    simp [h1,h2] at h;subst h;exact ⟨rfl,oS ht h1,parts_sound ht h2⟩
def CR (m:M ω) (t:T Value) (n:Nat) (cs:Array Value):Prop:=cs.size=n/\∀ j,j<n->∃ v v',t.get j=some v/\cs[j]?=some v'/\VRel m v v'
theorem foldl_set (off:Nat):∀ (l:List Value) (k:Nat) (cs:Array Value),
 ((l.zipIdx k).foldl (fun (cs:Array Value) (p:Value × Nat)=>cs.setIfInBounds (off+p.2) p.1) cs).size=cs.size /\
 ∀ j,((l.zipIdx k).foldl (fun (cs:Array Value) (p:Value × Nat)=>cs.setIfInBounds (off+p.2) p.1) cs)[j]?=if off+k<=j/\j<off+k+l.length/\j<cs.size then l[j-(off+k)]? else cs[j]?
 | [],k,cs=>by simp;intros;omega
 | v::l,k,cs=>by
  simp only [List.zipIdx_cons,List.foldl_cons];obtain ⟨h1,h2⟩:=foldl_set off l (k+1) (cs.setIfInBounds (off+k) v);refine ⟨by rw [h1];simp,fun j=>?_⟩;rw [h2];simp only [Array.size_setIfInBounds,List.length_cons,Array.getElem?_setIfInBounds];by_cases h3:off+k=j
  ·subst h3;rw [if_neg (by omega),if_pos rfl];by_cases h4:off+k<cs.size
   ·rw [if_pos h4,if_pos (by omega)];simp
   ·rw [if_neg h4,if_neg (by omega),Array.getElem?_eq_none (by omega)]
  ·by_cases h4:off+(k+1)<=j/\j<off+(k+1)+l.length/\j<cs.size
   ·rw [if_pos h4,if_pos (by omega),show j-(off+k)=(j-(off+(k+1)))+1 by omega];simp
   ·rw [if_neg h4,if_neg h3,if_neg (by omega)]
theorem fill_sound {place place':Nat->Option (Nat × Nat)} (hp:∀ i p,place i=some p->place' i=some p):∀ {ps ps':List (Nat × Value)} {t t':T Value} {k:Nat} {cs:Array Value},
 PRel m ps ps'->CR m t k cs->fillL place t k ps=some t'->∃ cs',Instr.fill place' cs ps'=some cs'/\CR m t' k cs'
 | [],[],t,t',k,cs,_,hc,h=>by simp [fillL] at h;subst h;exact ⟨cs,rfl,hc⟩
 | (i,v)::r,(j,v')::r',t,t',k,cs,hr,hc,h=>by
  obtain ⟨rfl,hv,hr'⟩:=hr;simp only [fillL] at h
  cases h1:place i with
  | none=>simp [h1] at h
  | some p =>
   obtain ⟨off,sz⟩:=p;simp only [h1] at h
   cases h2:(Nat.beq (cellsOf v).length sz && Nat.ble (off+(cellsOf v).length) k) with
   | false=>simp [h2] at h
   | true =>
    simp only [h2,cond_true] at h;rw [Bool.and_eq_true] at h2;have e1:=bE h2.1;have e2:=Nat.le_of_ble_eq_true h2.2;have hcl:=cells_rel hv
    have hsz:v'.cells.size=(cellsOf v).length:=by rw [cells_arr];simp;exact hcl.1.symm
    have hfold:v'.cells.zipIdx.foldl (fun cs (x:Value × Nat)=>match x with | (c,j)=>cs.setIfInBounds (off+j) c) cs=((cellsOf v').zipIdx 0).foldl (fun (cs:Array Value) (p:Value × Nat)=>cs.setIfInBounds (off+p.2) p.1) cs:=by
     rw [cells_arr,<-Array.foldl_toList];simp
    obtain ⟨g1,g2⟩:=foldl_set off (cellsOf v') 0 cs
    have hc':CR m (T.ofList (cellsOf v) off t) k (((cellsOf v').zipIdx 0).foldl (fun (cs:Array Value) (p:Value × Nat)=>cs.setIfInBounds (off+p.2) p.1) cs):=by
     refine ⟨by rw [g1];exact hc.1,fun q hq=>?_⟩;rw [T.get_ofList,g2,hc.1];simp only [Nat.add_zero];by_cases hin:off<=q/\q<off+(cellsOf v).length
     ·rw [if_pos hin,if_pos ⟨hin.1,by rw [<-hcl.1];exact hin.2,hq⟩]
      have hql:q-off<(cellsOf v).length:=by omega
      have hql':q-off<(cellsOf v').length:=by rw [<-hcl.1];exact hql
      exact ⟨(cellsOf v)[q-off],(cellsOf v')[q-off],gE hql,gE hql',hcl.2 (q-off) _ _ (gE hql) (gE hql')⟩
     ·rw [if_neg hin,if_neg (by rw [<-hcl.1];omega)];exact hc.2 q hq
    obtain ⟨cs',k1,k2⟩:=fill_sound hp hr' hc' h;refine ⟨cs',?_,k2⟩;rw [Instr.fill,hp i _ h1];simp only [hsz,e1,hc.1];rw [if_neg (by simp;omega)];rw [hfold];exact k1
 | [],_::_,_,_,_,_,h,_,_=>h.elim
 | _::_,[],_,_,_,_,h,_,_=>by simp [PRel] at h
theorem CR.of_list {l l':List Value} (h:LRel m l l'):CR m (T.ofList l 0 .leaf) l.length l'.toArray:=by
 refine ⟨by simp [h.1],fun j hj=>?_⟩;rw [T.get_ofList,if_pos (by omega)]
 have hj':j<l'.length:=by rw [<-h.1];exact hj
 exact ⟨l[j],l'[j],by simp,by simp [hj'],h.2 j _ _ (gE hj) (gE hj')⟩
theorem CR.range {t:T Value} {k:Nat} {cs:Array Value} (h:CR m t k cs) {l:List Value} (hl:t.range 0 k=some l):LRel m l cs.toList:=by
 obtain ⟨h1,h2⟩:=T.range_spec t k 0 l hl;refine ⟨by simp [h1,h.1],fun i v v' hv hv'=>?_⟩;have hi:=(lS.1 hv).1;obtain ⟨x,x',e1,e2,e3⟩:=h.2 i (by omega);have e4:=h2 i (by omega);rw [Nat.zero_add,e1,hv] at e4;rw [<-Array.getElem?_toList,hv'] at e2
 cases e4;cases e2;exact e3
theorem mapM_get {α β:Type} {f:α->Option β}:∀ {l:List α} {r:List β},l.mapM f=some r->∀ (i:Nat) (x:α),l[i]?=some x->r[i]?=f x
 | [],r,_,i,x,hx=>by simp at hx
 | y::l,r,h,i,x,hx=>by
  simp only [List.mapM_cons,Option.bind_eq_bind,Option.pure_def] at h
  cases h1:f y with
  | none=>simp [h1] at h
  | some b =>
   cases h2:l.mapM f with
   | none=>simp [h1,h2] at h
   | some bs =>
    simp [h1,h2] at h;subst h
    cases i with
    | zero=>simp at hx ⊢;subst hx;exact h1.symm
    | succ i=>simp at hx ⊢;exact mapM_get h2 i x hx
theorem build_sound (hC:CtxOK ω C) (hs:SR B X m s w) (ht:TR m n a act) {t:TypeId} {ps:Array (Nat × Operand)} {r:R} (h:opBuild t ps C a s=some (r,s')) :
 OpOK C B X m s' w r ((do let z <-Instr.build t (ps.map fun (i,x)=>(i,act.eval x));pure (Next.value z):Sem Next).run C.P w):=by
 have ps_eq:(ps.map fun (x:Nat × Operand)=>match x with | (i,x)=>(i,act.eval x)).toList=ps.toList.map fun (i,x)=>(i,act.eval x):=by simp
 unfold opBuild at h
 split at h
 ·rename_i z fs l hz hu hl;obtain ⟨ti,zv,hti,hzv,rfl,hpl,_⟩:=zeroC_sound hC hz;have hun:=hC.un _ _ hu;obtain ⟨places,hpla⟩:=hC.places _ _ hu
  split at h
  ·rename_i t' hf
   split at h
   ·rename_i cs hcs
    cases h
    obtain ⟨cs',k1,k2⟩:=fill_sound (m:=m) (place':=(places.toArray[·]?)) (fun i p hp=>by
     split at hp
     ·rename_i f hfi
      split at hp
      ·rename_i sz hsz
       cases hp
       obtain ⟨fi,hfi',rfl⟩:=sizeT_sound hC hsz;have:=mapM_get hpla i f (by unfold fieldAt at hfi;exact hfi);simp [this,hfi']
      ·cases hp
     ·cases hp) (parts_sound ht hl) (CR.of_list (LRel.plain (m:=m) hpl)) hf
    refine VOK.op (VOK.same hs (run_build w t _ cs' ?_) (k2.range hcs).agg);unfold Program.built;simp only [hti,hun,hzv,hpla,ps_eq,cells_arr];exact k1
   ·cases h
  ·cases h
 ·rename_i z kn e l hz hu hl;obtain ⟨ti,zv,hti,hzv,rfl,hpl,_⟩:=zeroC_sound hC hz;have hun:=hC.un _ _ hu
  split at h
  ·rename_i sz hsz;obtain ⟨ei,hei,rfl⟩:=sizeT_sound hC hsz
   split at h
   ·rename_i t' hf
    split at h
    ·rename_i cs hcs
     cases h
     obtain ⟨cs',k1,k2⟩:=fill_sound (m:=m) (fun i p hp=>hp) (parts_sound ht hl) (CR.of_list (LRel.plain (m:=m) hpl)) hf;refine VOK.op (VOK.same hs (run_build w t _ cs' ?_) (k2.range hcs).agg);unfold Program.built;simp only [hti,hun,hzv,hei,ps_eq,cells_arr];exact k1
    ·cases h
   ·cases h
  ·cases h
 ·cases h
theorem buildSlice_new (hC:CtxOK ω C) (ht:TR m n a act) (hB:B<=w.heap.size) {t:TypeId} {k:Nat} {ps:Array (Nat × Operand)} {o:AObj} {f:Nat->Value} (h:alBuildSlice t k ps C a=some (o,f)) :
 NewOK B m w o f ((do let z <-Instr.buildSlice t k (ps.map fun (i,x)=>(i,act.eval x));pure (Next.value z):Sem Next).run C.P w):=by
 have ps_eq:(ps.map fun (x:Nat × Operand)=>match x with | (i,x)=>(i,act.eval x)).toList=ps.toList.map fun (i,x)=>(i,act.eval x):=by simp
 unfold alBuildSlice at h
 split at h
 ·rename_i e l hu hl;have hun:=hC.un _ _ hu
  split at h
  ·rename_i sz z hsz hz;obtain ⟨ti,zv,hti,hzv,rfl,hpl,hlen⟩:=zeroC_sound hC hz;obtain ⟨ei,hei,rfl⟩:=sizeT_sound hC hsz;rw [hti] at hei;cases hei
   cases hle:Nat.ble (k*ti.size) 16777216 with
   | false=>simp [hle] at h
   | true =>
    simp only [hle,cond_true] at h;have hle':=Nat.le_of_ble_eq_true hle
    split at h
    ·rename_i t' hf;simp only [Option.some.injEq,Prod.mk.injEq] at h;obtain ⟨rfl,rfl⟩:=h
     have hrl:(repL k (cellsOf zv)).length=k*ti.size:=by rw [repL_len,hlen]
     have hcr:CR m (T.ofList (repL k (cellsOf zv)) 0 .leaf) (k*ti.size) (repL k (cellsOf zv)).toArray:=by
      rw [<-hrl];exact CR.of_list (LRel.plain (m:=m) (repL_plain _ hpl k))
     obtain ⟨cs',k1,k2⟩:=fill_sound (m:=m) (fun i p hp=>hp) (parts_sound ht hl) hcr hf
     have hrow:(Array.range (k*ti.size)).map (fun i=>zv.cells[i % zv.cells.size]!)=(repL k (cellsOf zv)).toArray:=by
      have:=rep_arr zv.cells k;rw [cells_list] at this;rw [<-this]
      have hz2:zv.cells.size=ti.size:=by rw [cells_arr,hlen];simp
      rw [hz2]
     refine ⟨.slice (some ⟨w.heap.size,0,none⟩) k k,w.alloc (.cells cs' e),⟨w.heap.size,0,k*ti.size,0,false,k*ti.size⟩,?_,rfl,by simp,fun q hq=>Below.heap_alloc w _ q hq,(bR _ _).alloc hB _,?_,fun m' b hb=>.slice _ _ _ _ _ ⟨rfl,_,hb,rfl⟩ (.inl rfl) (nR _)⟩
     ·have k1':Instr.fill (fun i=>some (i*ti.size,ti.size)) (repL k (cellsOf zv)).toArray (ps.toList.map fun x=>(x.fst,act.eval x.snd))=some cs':=k1;by_cases h0:k*ti.size=0
      ·have hk0:Instr.fill (fun i=>some (i*ti.size,ti.size)) (Array.map (fun _=>default) (Array.range 0)) (ps.toList.map fun x=>(x.fst,act.eval x.snd))=some cs':=by
        rw [<-k1'];congr 1
        have:(repL k (cellsOf zv)).length=0:=by rw [hrl,h0]
        rw [List.length_eq_zero_iff.1 this];simp
       simp [Instr.buildSlice,run_underlying hun,sizeOf,typeInfo,hti,h0,newRow,hk0]
      ·simp [Instr.buildSlice,run_underlying hun,sizeOf,typeInfo,hti,h0,show ¬ 16777216<k*ti.size by omega,zeroValue,hzv,newRow,hrow,k1']
     ·refine ⟨rfl,rfl,rfl,by simp,cs',(0,0),heap_alloc_new w _,k2.1,fun j hj=>?_,.inl rfl⟩;obtain ⟨v,v',e1,e2,e3⟩:=k2.2 j hj;exact ⟨v,v',e1,by simpa using e2,e3⟩
    ·cases h
  ·cases h
 ·cases h
def EL (m:M ω) (es es':List MapEntry):Prop:=es.length=es'.length/\∀ (k:Nat) (e e':MapEntry),es[k]?=some e->es'[k]?=some e'->ERel m e e'
theorem EL.tail {e e':MapEntry} {es es':List MapEntry} (h:EL m (e::es) (e'::es')):ERel m e e'/\EL m es es' :=
 ⟨h.2 0 e e' rfl rfl,by simpa using h.1,fun k a b ha hb=>h.2 (k+1) a b (by simpa using ha) (by simpa using hb)⟩
theorem EL.at_ {es es':List MapEntry} (h:EL m es es') {k:Nat} {e:MapEntry} (he:es[k]?=some e):∃ e',es'[k]?=some e'/\ERel m e e':=by
 have hk:=(lS.1 he).1
 have hk':k<es'.length:=by rw [<-h.1];exact hk
 exact ⟨es'[k],gE hk',h.2 k _ _ he (gE hk')⟩
theorem find_none {d:TypeDesc} {k:Value}:∀ {es es':List MapEntry} {i:Nat},EL m es es'->Instr.findNow d k es i=some none->Instr.findNow d k es' i=some none
 | [],[],_,_,h=>h
 | e::es,e'::es',i,hl,h=>by
  obtain ⟨he,hl'⟩:=hl.tail;unfold Instr.findNow at h ⊢;rw [<-he.1]
  split at h
  ·cases h
  ·exact find_none hl' h
  ·cases h
 | [],_::_,_,hl,_=>by have:=hl.1;simp at this
 | _::_,[],_,hl,_=>by have:=hl.1;simp at this
theorem find_some {d:TypeDesc} {k:Value}:∀ {es es':List MapEntry} {i j:Nat} {v:Value},EL m es es'->Instr.findNow d k es i=some (some (j,v)) ->
 ∃ v',Instr.findNow d k es' i=some (some (j,v'))/\VRel m v v'/\i<=j/\∃ e,es[j-i]?=some e/\Instr.sameNow d k e.key=some true
 | [],[],_,_,_,_,h=>by simp [Instr.findNow] at h
 | e::es,e'::es',i,j,v,hl,h=>by
  obtain ⟨he,hl'⟩:=hl.tail;unfold Instr.findNow at h ⊢;rw [<-he.1]
  split at h
  ·rename_i hq;cases h;exact ⟨e'.val,rfl,he.2.2.1,nR _,e,by simp,hq⟩
  ·obtain ⟨v',h1,h2,h3,e0,h4,h5⟩:=find_some hl' h;exact ⟨v',h1,h2,by omega,e0,by rw [show j-i=(j-(i+1))+1 by omega];simpa using h4,h5⟩
  ·cases h
 | [],_::_,_,_,_,hl,_=>by have:=hl.1;simp at this
 | _::_,[],_,_,_,hl,_=>by have:=hl.1;simp at this
theorem plainKey_plain {d:TypeDesc} {k:Value} (h:plainKey d k=true):plainV k=true:=by
 cases k <;> simp [plainKey] at h <;> rfl
theorem plainKey_check {kt:TypeId} {d:TypeDesc} {k:Value} {b:Bool} (hu:C.P.underlying kt=some d) (h:plainKey d k=true):(Instr.checkKey b 10000 kt k).run C.P w=.ok () w:=by
 have:∀ q,(Instr.checkKey b (q+1) kt k).run C.P w=.ok () w:=fun q=>by
  cases k <;> simp [plainKey] at h
  all_goals (cases d <;> simp at h <;> simp [Instr.checkKey,run_underlying hu])
 exact this 9999
theorem same_stays {d:TypeDesc} {k k':Value} (h:Instr.sameNow d k k'=some true):(Instr.keyThatStays k' k).run C.P w=.ok k w:=by
 have:∀ q,Instr.sameBits q k' k=true:=fun q=>by
  unfold Instr.sameNow at h
  split at h
  ·split at h
   ·rename_i hk;subst hk;simp at h;subst h;simp [Instr.sameBits]
   ·cases h
  ·simp only [Option.some.injEq] at h;rw [MapKept.bytes_beq] at h;subst h;simp [Instr.sameBits,MapKept.bytes_beq]
  ·simp at h;subst h;simp [Instr.sameBits]
  ·cases h
 simp [Instr.keyThatStays,this]
theorem map_obj {b:Nat} {es:List MapEntry} {ck:Nat} (hs:SR B X m s w) (hb:s.h.get b=some (.map es ck)) {i:Info} (hi:m b=some i) :
 ∃ es',w.heap[i.r]?=some (.map es'.toArray ck)/\EL m es es'/\B<=i.r/\i.r<w.heap.size:=by
 obtain ⟨⟨es',h2,h3⟩,h4,h5⟩:=hs.rel b _ i hb rfl hi;exact ⟨es',h2,h3,h4,h5⟩
theorem getObj_run {r:Nat} {es:Array MapEntry} {ck:Nat} (h:w.heap[r]?=some (.map es ck)):(getObj r).run C.P w=.ok (.map es ck) w:=by simp [getObj,Sem.run,h]
theorem setObj_run {r:Nat} {es:Array MapEntry} {ck:Nat} {o':Obj} (h:w.heap[r]?=some (.map es ck)):(setObj r o').run C.P w=.ok () {w with heap:=w.heap.setIfInBounds r o'}:=by simp [setObj,Sem.run,h]
theorem setMap_sound {b:Nat} {es:List MapEntry} {ck:Nat} (hs:SR B X m s w) (hb:s.h.get b=some (.map es ck)) {i:Info} (hi:m b=some i) (hB:B<=i.r) (hlt:i.r<w.heap.size)
 {es2 es2':List MapEntry} {ck2:Nat} (hl:EL m es2 es2') :
 SR B X m ⟨s.n,s.h.put b (.map es2 ck2)⟩ {w with heap:=w.heap.setIfInBounds i.r (.map es2'.toArray ck2)}/\Below B w {w with heap:=w.heap.setIfInBounds i.r (.map es2'.toArray ck2)}:=by
 refine ⟨upd_sound hs hb rfl hi (by simp) (fun k hk=>?_) ⟨es2',?_,hl⟩,⟨rfl,rfl,rfl,by simp,fun k hk=>?_⟩⟩
 ·show (w.heap.setIfInBounds i.r _)[k]?=_;rw [Array.getElem?_setIfInBounds,if_neg (fun e=>hk e.symm)]
 ·show (w.heap.setIfInBounds i.r _)[i.r]?=_;rw [Array.getElem?_setIfInBounds,if_pos rfl,if_pos hlt]
 ·show (w.heap.setIfInBounds i.r _)[k]?=_;rw [Array.getElem?_setIfInBounds,if_neg (by omega)]
theorem mapv_inv {r:Option Nat} {v:Value} (h:VRel m (.map r) v):(r=none/\v=.map none)\/∃ b i,r=some b/\m b=some i/\v=.map (some i.r):=by
 cases h with
 | plain v h=>cases r with
  | none=>exact .inl ⟨rfl,rfl⟩
  | some b=>simp [plainV] at h
 | map b i h=>exact .inr ⟨b,i,rfl,h,rfl⟩
theorem lookup_sound (hC:CtxOK ω C) (hs:SR B X m s w) (ht:TR m n a act) {t:TypeId} {x k:Operand} {ok:Bool} {r:R} (h:opLookup t x k ok C a s=some (r,s')) :
 OpOK C B X m s' w r ((do let z <-Instr.lookup t (act.eval x) (act.eval k) ok;pure (Next.value z):Sem Next).run C.P w):=by
 have two:∀ {u u':Value} (b:Bool),VRel m u u'->VRel m (cond ok (.tuple #[u,.bool b]) u) (if ok then .tuple #[u',.bool b] else u'):=fun b hv=>by
  cases ok
  ·exact hv
  ·exact (LRel.cons hv (LRel.cons (.plain (.bool b) rfl) (LRel.nil m))).tuple
 unfold opLookup at h
 split at h
 ·rename_i kt et r0 kv hu hx hk;have hun:=hC.un _ _ hu
  split at h
  ·rename_i d ei hd hei;have hdn:=hC.un _ _ hd;have hen:=hC.ty _ _ hei
   split at h
   ·rename_i es z hes hz
    cases hp:(plainKey d kv && closedV z) with
    | false=>simp [hp] at h
    | true =>
     simp only [hp,cond_true] at h;rw [Bool.and_eq_true] at hp;have hkv:=plain_inv (oS ht hk) (plainKey_plain hp.1)
     obtain ⟨es',hel,hrun⟩:∃ es',EL m es es'/\(act.eval x=.map none/\es'=[]\/∃ r ck,act.eval x=.map (some r)/\w.heap[r]?=some (.map es'.toArray ck)):=by
      rcases mapv_inv (oS ht hx) with ⟨rfl,e⟩ | ⟨b,i,rfl,hi,e⟩
      ·cases hes
       exact ⟨[],⟨rfl,fun k e e' h=>by simp at h⟩,.inl ⟨e,rfl⟩⟩
      ·simp only at hes
       split at hes
       ·rename_i es0 ck hb
        cases hes
        obtain ⟨es',h2,h3,_⟩:=map_obj hs hb hi;exact ⟨es',h3,.inr ⟨_,_,e,h2⟩⟩
       ·cases hes
     have hzr:(zeroValue et).run C.P w=.ok z w:=by simp [zeroValue,typeInfo,hen,hz]
     split at h
     ·rename_i j v hf
      cases h
      obtain ⟨v',g1,g2,_⟩:=find_some hel hf;refine VOK.op (VOK.same hs (v':=if ok then .tuple #[v',.bool true] else v') ?_ (two true g2))
      rcases hrun with ⟨e,rfl⟩ | ⟨q,ck,e,hq⟩
      ·simp [Instr.lookup,run_underlying hun,e,hkv,plainKey_check hdn hp.1,Instr.findKey,run_underlying hdn,g1,Result.andThen]
      ·simp [Instr.lookup,run_underlying hun,e,getObj_run hq,hkv,plainKey_check hdn hp.1,Instr.findKey,run_underlying hdn,g1,Result.andThen]
     ·rename_i hf
      cases h
      have g1:=find_none hel hf;refine VOK.op (VOK.same hs (v':=if ok then .tuple #[z,.bool false] else z) ?_ (two false (closed_refl hp.2)))
      rcases hrun with ⟨e,rfl⟩ | ⟨q,ck,e,hq⟩
      ·simp [Instr.lookup,run_underlying hun,e,hkv,plainKey_check hdn hp.1,Instr.findKey,run_underlying hdn,g1,hzr,Result.andThen]
      ·simp [Instr.lookup,run_underlying hun,e,getObj_run hq,hkv,plainKey_check hdn hp.1,Instr.findKey,run_underlying hdn,g1,hzr,Result.andThen]
     ·cases h
   ·cases h
  ·cases h
 ·cases h
theorem EL.modify {es es':List MapEntry} (h:EL m es es') (j:Nat) {kv v v':Value} (hk:plainV kv=true) (hv:VRel m v v') :
 EL m (es.modify j fun e=>{e with key:=kv,val:=v}) (es'.modify j fun e=>{e with key:=kv,val:=v'}):=by
 refine ⟨by simp [h.1],fun k e e' he he'=>?_⟩;rw [List.getElem?_modify] at he he';by_cases hj:j=k
 ·subst hj;simp only [if_true] at he he'
  cases h1:es[j]? with
  | none=>simp [h1] at he
  | some e0 =>
   obtain ⟨e1,h2,h3⟩:=h.at_ h1;simp [h1] at he;simp [h2] at he';subst he;subst he';exact ⟨rfl,hk,hv,h3.2.2.2⟩
 ·simp [hj] at he he';exact h.2 k e e' he he'
theorem EL.push {es es':List MapEntry} (h:EL m es es') {kv v v':Value} (ck:Nat) (hk:plainV kv=true) (hv:VRel m v v') :
 EL m (es++[{key:=kv,val:=v,born:=ck}]) (es'++[{key:=kv,val:=v',born:=ck}]):=by
 refine ⟨by simp [h.1],fun k e e' he he'=>?_⟩;by_cases hk':k<es.length
 ·rw [List.getElem?_append_left hk'] at he;rw [List.getElem?_append_left (by rw [<-h.1];exact hk')] at he';exact h.2 k e e' he he'
 ·rw [List.getElem?_append_right (by omega)] at he;rw [List.getElem?_append_right (by rw [<-h.1];omega)] at he';rw [<-h.1] at he'
  cases hq:k-es.length with
  | zero=>rw [hq] at he he';simp at he he';subst he;subst he';exact ⟨rfl,hk,hv,rfl⟩
  | succ q=>rw [hq] at he;simp at he
theorem EL.erase {es es':List MapEntry} (h:EL m es es') (j:Nat):EL m (es.eraseIdx j) (es'.eraseIdx j):=by
 refine ⟨by simp [List.length_eraseIdx,h.1],fun k e e' he he'=>?_⟩;rw [List.getElem?_eraseIdx] at he he'
 split at he
 ·rename_i hk;rw [if_pos hk] at he';exact h.2 k e e' he he'
 ·rename_i hk;rw [if_neg hk] at he';exact h.2 _ e e' he he'
theorem mapUpdate_sound (hC:CtxOK ω C) (hs:SR B X m s w) (ht:TR m n a act) {t:TypeId} {x k v:Operand} {r:R} (h:opMapUpdate t x k v C a s=some (r,s')) :
 OpOK C B X m s' w r ((do Instr.mapUpdate t (act.eval x) (act.eval k) (act.eval v);pure Next.skip:Sem Next).run C.P w):=by
 unfold opMapUpdate at h
 split at h
 ·rename_i kt et b kv vv hu hx hk hv;have hun:=hC.un _ _ hu;have hvv:=oS ht hv
  split at h
  ·rename_i d es ck hd hb;have hdn:=hC.un _ _ hd
   cases hp:plainKey d kv with
   | false=>simp [hp] at h
   | true =>
    simp only [hp,cond_true] at h;have hkv:=plain_inv (oS ht hk) (plainKey_plain hp);obtain ⟨i,h1,hx'⟩:=map_inv (oS ht hx);obtain ⟨es',h2,h3,h4,h5⟩:=map_obj hs hb h1
    split at h
    ·rename_i j u hf
     cases h
     obtain ⟨v',g1,g2,_,e0,g3,g4⟩:=find_some h3 hf;obtain ⟨e1,g5,g6⟩:=h3.at_ (by simpa using g3);have hkey:e1.key=e0.key:=g6.1.symm;obtain ⟨k1,k2⟩:=setMap_sound (ck2:=ck) hs hb h1 h4 h5 (h3.modify j (plainKey_plain hp) hvv);refine ⟨.skip,_,m,?_,Le.refl _,k1,k2,trivial⟩;simp [Instr.mapUpdate,run_underlying hun,hx',hkv,getObj_run h2,plainKey_check hdn hp,Instr.findKey,run_underlying hdn,g1,g5,hkey,same_stays g4,setObj_run h2,Result.andThen]
    ·rename_i hf
     cases h
     have g1:=find_none h3 hf;obtain ⟨k1,k2⟩:=setMap_sound (ck2:=ck+1) hs hb h1 h4 h5 (h3.push ck (plainKey_plain hp) hvv);refine ⟨.skip,_,m,?_,Le.refl _,k1,k2,trivial⟩;simp [Instr.mapUpdate,run_underlying hun,hx',hkv,getObj_run h2,plainKey_check hdn hp,Instr.findKey,run_underlying hdn,g1,setObj_run h2,Result.andThen]
    ·cases h
  ·cases h
 ·cases h
theorem delete_sound (hC:CtxOK ω C) (hs:SR B X m s w) {ts:List TypeId} {vs:List Value} {args:Array Value} (hl:LRel m vs args.toList) {ty:TypeId} {r:R} (h:biDelete C ts vs s=some (r,s')) :
 OpOK C B X m s' w r ((do let z <-Builtin.delete_ ts.toArray ty args;pure (Next.value z):Sem Next).run C.P w):=by
 unfold biDelete at h
 split at h
 ·rename_i t t2 b k
  obtain ⟨u1,u2,rfl⟩:∃ u1 u2,args=#[u1,u2]:=by
   have:=hl.1;simp at this
   match args,this with
   | ⟨[u1,u2]⟩,_=>exact ⟨u1,u2,rfl⟩
  have hr1:=hl.tail.1;have hr2:=hl.tail.2.tail.1
  split at h
  ·rename_i kt et es ck hu hb;have hun:=hC.un _ _ hu
   split at h
   ·rename_i d hd;have hdn:=hC.un _ _ hd
    cases hp:plainKey d k with
    | false=>simp [hp] at h
    | true =>
     simp only [hp,cond_true] at h;have hkv:=plain_inv hr2 (plainKey_plain hp);obtain ⟨i,h1,hx'⟩:=map_inv hr1;obtain ⟨es',h2,h3,h4,h5⟩:=map_obj hs hb h1
     split at h
     ·rename_i j u hf
      cases h
      obtain ⟨v',g1,g2,_,e0,g3,g4⟩:=find_some h3 hf
      have hj:j<es'.length:=by
       have:=(lS.1 g3).1;rw [<-h3.1];simpa using this
      obtain ⟨k1,k2⟩:=setMap_sound (ck2:=ck) hs hb h1 h4 h5 (h3.erase j);refine ⟨.value (.tuple #[]),_,m,?_,Le.refl _,k1,k2,.tuple _ _ rfl (fun i hi=>by simp at hi)⟩;simp [Builtin.delete_,run_underlying hun,hx',hkv,getObj_run h2,plainKey_check hdn hp,Instr.findKey,run_underlying hdn,g1,setObj_run h2,Result.andThen,Array.eraseIdxIfInBounds,hj]
     ·rename_i hf
      cases h
      have g1:=find_none h3 hf;obtain ⟨k1,k2⟩:=setMap_sound (ck2:=ck) hs hb h1 h4 h5 h3;refine ⟨.value (.tuple #[]),_,m,?_,Le.refl _,k1,k2,.tuple _ _ rfl (fun i hi=>by simp at hi)⟩;simp [Builtin.delete_,run_underlying hun,hx',hkv,getObj_run h2,plainKey_check hdn hp,Instr.findKey,run_underlying hdn,g1,setObj_run h2,Result.andThen]
     ·cases h
   ·cases h
  ·cases h
 ·cases h
end
end Go.Proofs.YtenfkghoolegfaaGreatDoor.Ev
namespace Go.Proofs.YtenfkghoolegfaaGreatDoor.Ev
open Go.RowKit
variable {ω:Nat->Value}
section
variable {C:Ctx} {B:Nat} {X:Aux} {m:M ω} {s s':AS} {w:World} {a:T Value} {act:Act} {n:Nat}
theorem kill_sound (h:SR B X m s w) (b:Nat) (hb:(s.h.get b).isSome=true) {i:Info} (hi:m b=some i):SR B X m ⟨s.n,s.h.put b .dead⟩ w:=by
 have key:∀ c p,(s.h.put b .dead).get c=some p->p.alive=true->s.h.get c=some p:=by
  intro c p hc hp;rw [T.get_put] at hc;by_cases hcb:c=b
  ·rw [if_pos hcb] at hc;cases hc;cases hp
  ·rw [if_neg hcb] at hc;exact hc
 refine ⟨fun c p j hc hp hj=>h.rel c p j (key c p hc hp) hp hj,fun c d p q x y hc hd hp hq hne hx hy=>h.inj c d p q x y (key c p hc hp) (key d q hd hq) hp hq hne hx hy,fun c hc=>?_,h.freshM,fun c p hc=>?_,h.kp,h.lt⟩
 ·show (s.h.put b .dead).get c=none;rw [T.get_put];by_cases hcb:c=b
  ·subst hcb;rw [h.freshH c hc] at hb;cases hb
  ·rw [if_neg hcb];exact h.freshH c hc
 ·obtain ⟨k1,k2⟩:=h.gh c p hc;refine ⟨?_,k2⟩;show (s.h.put b .dead).get c=some p;rw [T.get_put,if_neg (fun e=>by rw [e,hi] at k2;cases k2)];exact k1
theorem share_sound (h:SR B X m s w) {b:Nat} {o o':AObj} {i i':Info} (hg:s.h.get b=some o) (ha:o.alive=true) (hi:m b=some i) (hr:i'.r=i.r) {w1:World} (hsz:w1.heap.size=w.heap.size)
 (hold:∀ k,k≠i.r->w1.heap[k]?=w.heap[k]?) (ho:ORel (ext m s.n i') w1 i' o'):SR B X (ext m s.n i') ⟨s.n+1,(s.h.put b .dead).put s.n o'⟩ w1:=by
 obtain ⟨_,e2,e3⟩:=h.rel b o i hg ha hi;have hle:Le m (ext m s.n i'):=ext_le (h.freshM s.n (nR _))
 have hbn:b≠s.n:=fun e=>by rw [e,h.freshH s.n (nR _)] at hg;cases hg
 have mkey:∀ c j,ext m s.n i' c=some j->c≠s.n->m c=some j:=by
  intro c j hj hne;unfold ext at hj;rwa [if_neg hne] at hj
 have key:∀ c p,((s.h.put b .dead).put s.n o').get c=some p->p.alive=true->(c=s.n/\p=o')\/(c≠s.n/\c≠b/\s.h.get c=some p):=by
  intro c p hc hp;rw [T.get_put,T.get_put] at hc;by_cases hcn:c=s.n
  ·rw [if_pos hcn] at hc;cases hc;exact .inl ⟨hcn,rfl⟩
  ·rw [if_neg hcn] at hc;by_cases hcb:c=b
   ·rw [if_pos hcb] at hc;cases hc;cases hp
   ·rw [if_neg hcb] at hc;exact .inr ⟨hcn,hcb,hc⟩
 refine ⟨?_,?_,?_,?_,?_,?_,fun c j hj=>by
  by_cases hcn:c=s.n
  ·rw [hcn,ext_same] at hj;cases hj;rw [hsz,hr];exact e3
  ·rw [hsz];exact h.lt c j (mkey c j hj hcn)⟩
 ·intro c p j hc hp hj
  rcases key c p hc hp with ⟨rfl,rfl⟩ | ⟨h1,h2,h3⟩
  ·rw [ext_same] at hj;cases hj;exact ⟨ho,by omega,by omega⟩
  ·have h4:=mkey c j hj h1;obtain ⟨f2,f3,f4⟩:=h.rel c p j h3 hp h4;exact ⟨(f2.mono hle).other (hold _ (h.inj c b p o j i h3 hg hp ha h2 h4 hi)),f3,by omega⟩
 ·intro c d p q x y hc hd hp hq hne hx hy
  rcases key c p hc hp with ⟨rfl,rfl⟩ | ⟨h1,h2,h3⟩
  ·rw [ext_same] at hx;cases hx
   rcases key d q hd hq with ⟨rfl,rfl⟩ | ⟨k1,k2,k3⟩
   ·exact absurd rfl hne
   ·have:=h.inj d b q o _ i k3 hg hq ha k2 (mkey d y hy k1) hi;omega
  ·have h4:=mkey c x hx h1
   rcases key d q hd hq with ⟨rfl,rfl⟩ | ⟨k1,k2,k3⟩
   ·rw [ext_same] at hy;cases hy;have:=h.inj c b p o _ i h3 hg hp ha h2 h4 hi;omega
   ·exact h.inj c d p q _ _ h3 k3 hp hq hne h4 (mkey d y hy k1)
 ·intro c hc;have hc':s.n+1<=c:=hc;show ((s.h.put b .dead).put s.n o').get c=none;rw [T.get_put,if_neg (by omega),T.get_put];by_cases hcb:c=b
  ·subst hcb;rw [h.freshH c (by omega)] at hg;cases hg
  ·rw [if_neg hcb];exact h.freshH c (by omega)
 ·intro c hc;have hc':s.n+1<=c:=hc;unfold ext;rw [if_neg (by omega)];exact h.freshM c (by omega)
 ·intro c p hc;obtain ⟨k1,k2⟩:=h.gh c p hc
  have hcn:c≠s.n:=fun e=>by rw [e,h.freshH s.n (nR _)] at k1;cases k1
  have hcb:c≠b:=fun e=>by rw [e,hi] at k2;cases k2
  refine ⟨?_,by unfold ext;rw [if_neg hcn];exact k2⟩;show ((s.h.put b .dead).put s.n o').get c=some p;rw [T.get_put,if_neg hcn,T.get_put,if_neg hcb];exact k1
 ·intro r q hr';obtain ⟨k1,k2,k3⟩:=h.kp r q hr';have hne:=k3 b i hi;refine ⟨by rw [hold r hne.symm];exact k1,k2,fun c j hj=>?_⟩;by_cases hcn:c=s.n
  ·rw [hcn,ext_same] at hj;cases hj;rw [hr];exact hne
  ·exact k3 c j (mkey c j hj hcn)
theorem writeNil_sound (h:SR B X m s w) {p:Addr} (hp:∃ i,m p.block=some i) (hr:writeL s p []=some s'):SR B X m s' w:=by
 unfold writeL at hr
 split at hr
 ·rename_i k hsp hk
  cases hb:(Nat.ble (p.off+([]:List Value).length) k.len && ([]:List Value).all oneV) with
  | false=>rw [hb] at hr;cases hr
  | true =>
   rw [hb] at hr;simp only [cond_true,Option.some.injEq] at hr;subst hr;obtain ⟨i,h1⟩:=hp;obtain ⟨h2,h3,_⟩:=blk_at h hk h1;exact upd_sound h h2 rfl h1 rfl (fun _ _=>rfl) h3
 ·cases hr
structure ASrc (P:Program) (e:TypeId) (i:TypeInfo) (z:Value) (tx:TypeId) (x:Value) (k:Nat) (news:List Value) (w:World):Prop where
 way:Src P i.size tx x k news w\/(∃ kd,P.underlying tx=some (.int kd))/\(∃ kd,x=.int kd (k:Int))/\k<=1000000/\news=repL k z.cells.toList
theorem wrap_sm {k:Nat} (h:k<=1000000):IntKind.i64.wrap (k:Int)=k:=by
 simp [IntKind.wrap,IntKind.bits,IntKind.signed];omega
theorem app_room {P:Program} (t tx ty e:TypeId) (i:TypeInfo) (z:Value) (ht:P.underlying t=some (.slice e)) (hi:P.info? e=some i) (hz:i.zero=some z) (hzs:z.cells.size=i.size) (hby:i.bytes<=1000000)
 (ao:Option Addr) (q c:Nat) (x:Value) (k:Nat) (news:List Value) (hs:ASrc P e i z tx x k news w) (hroom:q+k<=c) {w':World} (hst:∀ p,ao=some p->(storeCells (p.add (q*i.size)) news).run P w=.ok () w') (hno:ao=none->w'=w) :
 (Builtin.append_ #[t,tx] ty #[.slice ao q c,x]).run P w=.ok (.slice ao (q+k) c) w':=by
 rcases hs.way with hs | ⟨⟨kd,hk⟩,⟨kd',rfl⟩,hk2,rfl⟩
 ·cases ao with
  | none=>obtain rfl:=hno rfl;rcases hs.kind with ⟨e',hk⟩ | hk <;> simp [Builtin.append_,run_underlying ht,run_underlying hk,sizeOf,typeInfo,hi,hs.len,hroom,hs.cells]
  | some p=>have:=hst p rfl;rcases hs.kind with ⟨e',hk⟩ | hk <;> simp [Builtin.append_,run_underlying ht,run_underlying hk,sizeOf,typeInfo,hi,hs.len,hroom,hs.cells,this]
 ·have hb:¬ ((281474976710656:Int)<(k:Int)*(i.bytes:Int)):=by
   have h1:(k:Int)*(i.bytes:Int)<=1000000*1000000:=Int.mul_le_mul (by omega) (by omega) (by omega) (by omega);omega
  have hzc:Builtin.zeroCells z.cells k=(repL k z.cells.toList).toArray:=rep_arr z.cells k;have hemp:k*i.size=0->repL k z.cells.toList=[]:=fun h=>List.length_eq_zero_iff.1 (by rw [repL_len];simp [hzs,h]);by_cases h0:k*i.size=0
  ·rw [hemp h0] at hst
   cases ao with
   | none=>obtain rfl:=hno rfl;simp [Builtin.append_,run_underlying ht,run_underlying hk,sizeOf,typeInfo,hi,asInt,asIntOf,wrap_sm hk2,show ¬ ((k:Int)<0) by omega,hb,hroom,h0]
   | some p=>have:=hst p rfl;simp [Builtin.append_,run_underlying ht,run_underlying hk,sizeOf,typeInfo,hi,asInt,asIntOf,wrap_sm hk2,show ¬ ((k:Int)<0) by omega,hb,hroom,h0,this]
  ·cases ao with
   | none=>obtain rfl:=hno rfl;simp [Builtin.append_,run_underlying ht,run_underlying hk,sizeOf,typeInfo,hi,asInt,asIntOf,wrap_sm hk2,show ¬ ((k:Int)<0) by omega,hb,hroom,zeroValue,hz]
   | some p=>have:=hst p rfl;simp [Builtin.append_,run_underlying ht,run_underlying hk,sizeOf,typeInfo,hi,asInt,asIntOf,wrap_sm hk2,show ¬ ((k:Int)<0) by omega,hb,hroom,h0,zeroValue,hz,hzc,this]
theorem app_grow {P:Program} (t tx ty e:TypeId) (i:TypeInfo) (z:Value) (ht:P.underlying t=some (.slice e)) (hi:P.info? e=some i) (hz:i.zero=some z) (hzs:z.cells.size=i.size) (hby:i.bytes<=1000000)
 (base:Option Addr) (q c:Nat) (olds:List Value) (hold:(Builtin.firstCells i.size q (.slice base q c)).run P w.drew=.ok olds.toArray w.drew) (x:Value) (k:Nat) (news:List Value) (hs:ASrc P e i z tx x k news w)
 (hg:c<q+k) (hsm:q+k<=1000000) :
 (Builtin.append_ #[t,tx] ty #[.slice base q c,x]).run P w =
  .ok (.slice (some ⟨w.heap.size,0,none⟩) (q+k) (grownCap w (q+k) c e))
   (w.drew.alloc (.cells ((olds++news).toArray++Builtin.zeroCells z.cells (grownCap w (q+k) c e-(q+k))) e)):=by
 have hfit:Builtin.nextslicecap (q+k) c*i.bytes<=281474976710656:=growslice_fits hg (by
  have:(q+k)*i.bytes<=1000000*1000000:=Nat.mul_le_mul hsm hby
  omega)
 rcases hs.way with hs | ⟨⟨kd,hk⟩,⟨kd',rfl⟩,hk2,rfl⟩
 ·exact run_append_grow_src w t tx ty e i z ht hi hz base q c olds hold x k news hs hg (by omega) hfit
 ·have hb:¬ ((281474976710656:Int)<(k:Int)*(i.bytes:Int)):=by
   have h1:(k:Int)*(i.bytes:Int)<=1000000*1000000:=Int.mul_le_mul (by omega) (by omega) (by omega) (by omega);omega
  have hn:¬ (q+k<=c):=by omega
  have h63':¬ (9223372036854775807<((q:Int)+(k:Int))):=by omega
  have h48':¬ (281474976710656<Builtin.nextslicecap (q+k) c*i.bytes):=by omega
  have hzc:Builtin.zeroCells z.cells k=(repL k z.cells.toList).toArray:=rep_arr z.cells k;have hemp:k*i.size=0->repL k z.cells.toList=[]:=fun h=>List.length_eq_zero_iff.1 (by rw [repL_len];simp [hzs,h]);by_cases h0:k*i.size=0
  ·rw [hemp h0];simp [Builtin.append_,run_underlying ht,run_underlying hk,sizeOf,typeInfo,zeroValue,hi,hz,asInt,asIntOf,wrap_sm hk2,show ¬ ((k:Int)<0) by omega,hb,hn,h63',h48',Question.forced,hold,newRow,grownCap,h0]
  ·simp [Builtin.append_,run_underlying ht,run_underlying hk,sizeOf,typeInfo,zeroValue,hi,hz,asInt,asIntOf,wrap_sm hk2,show ¬ ((k:Int)<0) by omega,hb,hn,h63',h48',Question.forced,hold,newRow,grownCap,h0,hzc];congr 2;apply Array.ext';simp [List.append_assoc]
end
end Go.Proofs.YtenfkghoolegfaaGreatDoor.Ev
namespace Go.Proofs.YtenfkghoolegfaaGreatDoor.Ev
open Go.RowKit
variable {ω:Nat->Value}
section
variable {C:Ctx} {B:Nat} {X:Aux} {m:M ω} {s s':AS} {w:World} {a:T Value} {act:Act} {n:Nat}
theorem one_all {l l':List Value} (h:LRel m l l') (ho:l.all oneV=true):∀ u∈l',u.oneCell'=true:=fun u hu=>by
 obtain ⟨j,hj⟩:=List.mem_iff_getElem?.1 hu
 have hjl:j<l.length:=by have:=(lS.1 hj).1;rw [h.1];exact this
 exact one_rel (h.2 j _ u (gE hjl) hj) (List.all_eq_true.1 ho _ (List.getElem_mem hjl))
theorem readN_zero {p:Addr} {l:List Value} (h:readN s p 0=some l):l=[]:=by
 unfold readN at h
 split at h
 ·rename_i k _ _
  cases hb:Nat.ble (p.off+0) k.len with
  | false=>rw [hb] at h;cases h
  | true=>rw [hb] at h;simp only [cond_true,T.range] at h;cases h;rfl
 ·cases h
theorem readN_len {p:Addr} {k:Nat} {l:List Value} (h:readN s p k=some l):l.length=k:=by
 unfold readN at h
 split at h
 ·rename_i q _ _
  cases hb:Nat.ble (p.off+k) q.len with
  | false=>rw [hb] at h;cases h
  | true=>rw [hb] at h;simp only [cond_true] at h;exact (T.range_spec _ _ _ _ h).1
 ·cases h
theorem src_sound (hs:SR B X m s w) {P:Program} {size k:Nat} {tx:TypeId} {y y':Value} {new:List Value} (hy:VRel m y y') (h:srcCells s size y=some (k,new)) (ho:new.all oneV=true)
 (hk:(∃ e',P.underlying tx=some (.slice e'))/\(∀ b,y≠.string b)\/P.underlying tx=some .string/\size=1) :
 ∃ news,LRel m new news/\Src P size tx y' k news w:=by
 unfold srcCells at h
 split at h
 ·cases h
  obtain rfl:=nilsl_inv hy
  rcases hk with ⟨⟨e',hk⟩,_⟩ | ⟨hk,rfl⟩
  ·exact ⟨[],LRel.nil m,Src.ofNil w hk 0⟩
  ·exact ⟨[],LRel.nil m,⟨.inr hk,fun _=>rfl,run_firstCells_none w 1 0 0 0,run_firstCells_none w.drew 1 0 0 0,by simp,fun _ h=>by cases h⟩⟩
 ·rename_i p q c
  split at h
  ·rename_i l hl
   cases h
   obtain ⟨p',c',rfl,hor⟩:=slice_inv hy
   obtain ⟨news,h1,h2,h3⟩:∃ news,LRel m new news/\news.length=k*size/\∀ j v,news[j]?=some v->w.cell? (p'.add j)=some v:=by
    rcases hor with ⟨hp,_,_⟩ | ⟨rfl,_,_⟩
    ·exact readN_sound hs hl hp
    ·rw [Nat.zero_mul] at hl;obtain rfl:=readN_zero hl;exact ⟨[],LRel.nil m,by simp,fun j v h=>by simp at h⟩
   have e1:=run_firstCells_some (P:=P) w size k p' k c' news h2 h3;have e2:=run_firstCells_some (P:=P) w.drew size k p' k c' news h2 (by simpa using h3);refine ⟨news,h1,?_,fun _=>rfl,e1,e2,h2,one_all h1 ho⟩
   rcases hk with ⟨hk,_⟩ | ⟨hk,rfl⟩
   ·exact .inl hk
   ·exact .inr hk
  ·cases h
 ·rename_i b
  cases h
  obtain rfl:=str_inv hy
  rcases hk with ⟨_,hk⟩ | ⟨hk,rfl⟩
  ·exact absurd rfl (hk b)
  ·exact ⟨byteCells b,LRel.plain (List.all_eq_true.2 fun v hv=>by obtain ⟨_,_,rfl⟩:=List.mem_map.1 hv;rfl),Src.ofString w hk b⟩
 ·cases h
theorem appSrc_sound (hC:CtxOK ω C) (hs:SR B X m s w) {e tx:TypeId} {ti:TypeInfo} {z:Value} (hty:C.ty e=some ti) (hz:ti.zero=some z) (hzt:tupB z=false) {dx:TypeDesc} (hdx:C.P.underlying tx=some dx)
 {y y':Value} {k:Nat} {new:List Value} (hy:VRel m y y') (h:appSrc C e ti.size dx y s=some (k,new)) (ho:new.all oneV=true) :
 ∃ news,LRel m new news/\news.length=k*ti.size/\ASrc C.P e ti z tx y' k news w:=by
 have hzp:=hC.zero e ti z hty hz hzt;unfold appSrc at h
 split at h
 ·rename_i kd
  split at h
  ·rename_i kk q z' hz';obtain ⟨i0,z0,g1,g2,rfl,g4,g5⟩:=zeroC_sound hC hz';rw [hC.ty e ti hty] at g1;cases g1;rw [hz] at g2;cases g2
   split at h
   ·rename_i hq
    cases h
    obtain rfl:=int_inv hy;refine ⟨repL q.toNat (cellsOf z),LRel.plain (repL_plain _ g4 _),by rw [repL_len,g5],⟨.inr ⟨⟨kd,hdx⟩,⟨kk,by rw [Int.toNat_of_nonneg hq.1]⟩,by omega,by rw [cells_list]⟩⟩⟩
   ·cases h
  ·cases h
 ·rename_i e'
  cases hsl:isSlV y with
  | false=>simp [hsl] at h
  | true =>
   simp only [hsl,cond_true] at h;obtain ⟨news,h1,h2⟩:=src_sound (P:=C.P) (tx:=tx) hs hy h ho (.inl ⟨⟨e',hdx⟩,fun b e=>by rw [e] at hsl;cases hsl⟩);exact ⟨news,h1,h2.newsLen,⟨.inl h2⟩⟩
 ·cases hb:Nat.beq ti.size 1 with
  | false=>simp [hb] at h
  | true =>
   simp only [hb,cond_true] at h;have h1:=bE hb;obtain ⟨news,h1,h2⟩:=src_sound (P:=C.P) (tx:=tx) hs hy h ho (.inr ⟨hdx,h1⟩);exact ⟨news,h1,h2.newsLen,⟨.inl h2⟩⟩
 ·cases h
theorem grown_sound (hs:SR B X m s w) (hB:B<=w.heap.size) {l l':List Value} (hl:LRel m l l') {k size cap:Nat} (hk:l.length=k*size) (hcap:k<=cap) {e:TypeId} {z:Array Value} (hz:z.size=size) {r:R}
 (h:grown s l k e size=some (r,s')) :
 ∃ v,r=.val v/\∃ m',Le m m'/\SR B X m' s' (w.drew.alloc (.cells (l'.toArray++Builtin.zeroCells z (cap-k)) e))/\Below B w (w.drew.alloc (.cells (l'.toArray++Builtin.zeroCells z (cap-k)) e)) /\
  VRel m' v (.slice (some ⟨w.heap.size,0,none⟩) k cap):=by
 have hsz:(l'.toArray++Builtin.zeroCells z (cap-k)).size=cap*size:=by
  simp [Builtin.zeroCells,<-hl.1,hk,hz];rw [<-Nat.add_mul];congr 1;omega
 obtain ⟨g1,g2⟩:=newOpen_sound (w1:=w.drew.alloc (.cells (l'.toArray++Builtin.zeroCells z (cap-k)) e)) (l:=l) (c':=l'.toArray++Builtin.zeroCells z (cap-k)) (e:=e) (fz:=(0,0)) hs hB (by simp) (fun q hq=>Below.heap_alloc w.drew _ q hq) false size
  (heap_alloc_new w.drew _) (.inl rfl) (by rw [hsz,hk];exact Nat.mul_le_mul_right _ hcap) (fun j v hj=>by
   obtain ⟨v',h1,h2⟩:=hl.at_ hj;have hj':j<l'.length:=(lS.1 h1).1;refine ⟨v',?_,h2⟩;rw [Array.getElem?_append_left (by simpa using hj')]
   simpa using h1)
 unfold grown at h;simp only [newBlk,Option.some.injEq,Prod.mk.injEq] at h;obtain ⟨rfl,rfl⟩:=h;refine ⟨_,rfl,_,g2,g1,((bR B w).drew).alloc hB _,.slice _ _ _ _ _ ⟨rfl,_,ext_same _ _ _,rfl⟩ (.inr ⟨hcap,_,ext_same _ _ _,rfl,?_,?_⟩) (nR _)⟩
 ·simp [hk]
 ·simp [hsz]
theorem appendTo_sound (hC:CtxOK ω C) (hs:SR B X m s w) (hB:B<=w.heap.size) {t tx ty e:TypeId} {ti:TypeInfo} {z:Value} (hun:C.P.underlying t=some (.slice e)) (hty:C.ty e=some ti) (hz:ti.zero=some z) (hzt:tupB z=false) (hby:ti.bytes<=1000000)
 {x x' y':Value} {k:Nat} {new news:List Value} (hx:VRel m x x') (hl:LRel m new news) (hone:new.all oneV=true) (hnl:news.length=k*ti.size) (hsrc:ASrc C.P e ti z tx y' k news w) {r:R}
 (h:appendTo s x k ti.size e new=some (r,s')):∃ v,r=.val v/\VOK B X m s' w v ((Builtin.append_ #[t,tx] ty #[x',y']).run C.P w):=by
 have hti:=hC.ty _ _ hty
 have hzs:z.cells.size=ti.size:=by rw [cells_arr,(hC.zero e ti z hty hz hzt).2];simp
 have hnl':new.length=k*ti.size:=by rw [hl.1,hnl]
 unfold appendTo at h
 split at h
 ·obtain rfl:=nilsl_inv hx
  cases h0:Nat.beq k 0 with
  | true =>
   have hk0:=bE h0;subst hk0;simp only [h0,cond_true,Option.some.injEq,Prod.mk.injEq] at h;obtain ⟨rfl,rfl⟩:=h;exact ⟨_,rfl,VOK.same hs (app_room (w':=w) t tx ty e ti z hun hti hz hzs hby none 0 0 y' 0 news hsrc (by omega) (fun p hp=>by cases hp) (fun _=>rfl)) (.plain _ rfl)⟩
  | false =>
   have hk0:=Nat.ne_of_beq_eq_false h0;simp only [h0,cond_false] at h
   cases h1:Nat.ble k 1000000 with
   | false=>simp [h1] at h
   | true =>
    simp only [h1,cond_true] at h;have h1':=Nat.le_of_ble_eq_true h1;have hrun:=app_grow t tx ty e ti z hun hti hz hzs hby none 0 0 [] (run_firstCells_none w.drew ti.size 0 0 0) y' k news hsrc (by omega) (by omega);obtain ⟨v,rfl,m',g1,g2,g3,g4⟩:=grown_sound hs hB hl hnl' (cap:=grownCap w (0+k) 0 e) (by have:=grownCap_ge w (0+k) 0 e;omega) hzs h;rw [List.nil_append] at hrun;simp only [Nat.zero_add] at hrun g2 g3 g4;exact ⟨v,rfl,_,_,m',hrun,g1,g2,g3,g4⟩
 ·rename_i p q c;obtain ⟨p',c',rfl,hor⟩:=slice_inv hx
  cases h1:Nat.ble (q+k) 1000000 with
  | false=>simp [h1] at h
  | true =>
   simp only [h1,cond_true] at h;have h1':=Nat.le_of_ble_eq_true h1
   have hcc:c<=c':=by
    rcases hor with ⟨_,hcr,_⟩ | ⟨_,rfl,rfl⟩
    ·rcases hcr with rfl | ⟨h,_⟩
     ·exact nR _
     ·exact h
    ·exact nR _
   unfold appendAt at h
   cases h2:Nat.ble (q+k) c with
   | true =>
    have h2':=Nat.le_of_ble_eq_true h2;simp only [h2,cond_true] at h
    split at h
    ·rename_i s2 hw
     cases h
     refine ⟨_,rfl,?_⟩
     rcases hor with ⟨hp,hcr,hqc⟩ | ⟨rfl,rfl,rfl⟩
     ·obtain ⟨w',g1,g2,g3⟩:=writeL_sound (P:=C.P) hs hw (addr_add hp) hl;exact ⟨_,w',m,app_room t tx ty e ti z hun hti hz hzs hby (some p') q c' y' k news hsrc (by omega) (fun p0 hp0=>by cases hp0;exact g1) (fun h=>by cases h),Le.refl _,g2,g3,.slice _ _ _ _ _ hp hcr (by omega)⟩
     ·have hk0:k=0:=by omega
      subst hk0;have hnew:new=[]:=List.length_eq_zero_iff.1 (by rw [hnl'];simp);have hnews:news=[]:=List.length_eq_zero_iff.1 (by rw [hnl];simp);subst hnew;subst hnews;exact ⟨_,w,m,app_room t tx ty e ti z hun hti hz hzs hby (some p') 0 0 y' 0 [] hsrc (by omega) (fun p0 hp0=>by simp [storeCells]) (fun h=>by cases h),Le.refl _,writeNil_sound hs (by have:=slice_map hx;exact this) hw,bR _ _,.slice0 _ _ (slice_map hx)⟩
    ·cases h
   | false =>
    have h2':¬ (q+k<=c):=fun hh=>by rw [Nat.ble_eq_true_of_le hh] at h2;cases h2
    simp only [h2,cond_false] at h
    split at h
    ·rename_i old kb hold hkb;have hol:=readN_len hold
     obtain ⟨olds,o1,o2,o3⟩:∃ olds,LRel m old olds/\olds.length=q*ti.size/\∀ j v,olds[j]?=some v->w.cell? (p'.add j)=some v:=by
      rcases hor with ⟨hp,_,_⟩ | ⟨rfl,_,_⟩
      ·exact readN_sound hs hold hp
      ·rw [Nat.zero_mul] at hold;obtain rfl:=readN_zero hold;exact ⟨[],LRel.nil m,by simp,fun j v h=>by simp at h⟩
     have hfirst:=run_firstCells_some (P:=C.P) w.drew ti.size q p' q c' olds o2 (by simpa using o3)
     have hlen:(old++new).length=(q+k)*ti.size:=by rw [lQ,hol,hnl',Nat.add_mul]
     have grows:∀ {s0:AS},SR B X m s0 w->c'<q+k->grown s0 (old++new) (q+k) e ti.size=some (r,s')->∃ v,r=.val v/\VOK B X m s' w v ((Builtin.append_ #[t,tx] ty #[.slice (some p') q c',y']).run C.P w):=by
      intro s0 hs0 hlt hg;have hrun:=app_grow t tx ty e ti z hun hti hz hzs hby (some p') q c' olds hfirst y' k news hsrc hlt h1';obtain ⟨v,rfl,m',g1,g2,g3,g4⟩:=grown_sound hs0 hB (o1.append hl) hlen (grownCap_ge w (q+k) c' e) hzs hg;exact ⟨v,rfl,_,_,m',hrun,g1,g2,g3,g4⟩
     obtain ⟨i,i1⟩:=slice_map hx;obtain ⟨i2,⟨a1,a2,a3,a4,cw,fz,hw,hsz,hcell,hfz⟩,i4,i5⟩:=blk_at hs hkb i1
     have fixed:(kb.opn=true->kb.esz=ti.size/\p.off+c*ti.size≠kb.len)->c'<q+k:=by
      intro hno
      rcases hor with ⟨hp,hcr,_⟩ | ⟨_,rfl,rfl⟩
      ·rcases hcr with rfl | ⟨_,i',j1,j2,j3,_⟩
       ·omega
       ·rw [i1] at j1;cases j1;obtain ⟨x1,x2⟩:=hno (by rw [<-a2];exact j2);rw [a3,x1,a1] at j3;exact absurd j3 x2
      ·omega
     cases ho:kb.opn with
     | false =>
      simp only [ho,cond_false] at h;exact grows hs (fixed (fun e=>by rw [ho] at e;cases e)) h
     | true =>
      simp only [ho,cond_true] at h
      cases hez:Nat.beq kb.esz ti.size with
      | false=>simp [hez] at h
      | true =>
       simp only [hez,cond_true] at h;have hez':=bE hez
       cases hend:Nat.beq (p.off+c*ti.size) kb.len with
       | false =>
        simp only [hend,cond_false] at h;exact grows hs (fixed (fun _=>⟨hez',Nat.ne_of_beq_eq_false hend⟩)) h
       | true =>
        simp only [hend,cond_true] at h;have hend':=bE hend
        cases hel:Nat.beq kb.elem e with
        | false=>simp [hel] at h
        | true =>
        have helem:=bE hel;simp only [hel,cond_true] at h;have hkill:=kill_sound hs p.block (by rw [i2];rfl) i1;by_cases hroom:q+k<=c'
        ·
          rcases hor with ⟨hp,hcr,hqc⟩ | ⟨_,rfl,rfl⟩
          ·obtain ⟨hspot,i',hi',rfl⟩:=hp;rw [i1] at hi';cases hi'
           have hfit:i.d+p.off+c'*ti.size<=i.tot:=by
            rcases hcr with rfl | ⟨_,i',j1,j2,j3,j4⟩
            ·omega
            ·rw [i1] at j1;cases j1;rw [a3,hez'] at j4;exact j4
           have hmul:(q+k)*ti.size<=c'*ti.size:=Nat.mul_le_mul_right _ hroom;have hqk:q*ti.size+k*ti.size=(q+k)*ti.size:=(Nat.add_mul _ _ _).symm
           have hst:=run_storeCells_cells (P:=C.P) i.r (i.d+p.off+q*ti.size) news 0 w
            (fun j hj=>by
             rw [cell_of_row w i.r _ cw kb.elem fz hw];rw [hnl] at hj
             have hb:i.d+p.off+q*ti.size+j<cw.size:=by omega
             simp [hb])
            (fun j hj=>by
             simp only [World.frozen?,hw];rw [hnl] at hj
             rcases hfz with e | ⟨e,_⟩ <;> rw [e] <;> simp
             omega)
            (one_all hl hone)
           simp only [Nat.add_zero] at hst;obtain ⟨c2,g1,g2,g3⟩:=heap_setCells news (i.d+p.off+q*ti.size) w cw hw;have hrun:=app_room (w':=w.setCells i.r (i.d+p.off+q*ti.size) news) t tx ty e ti z hun hti hz hzs hby (some ⟨i.r,i.d+p.off,none⟩) q c' y' k news hsrc hroom (fun p0 hp0=>by cases hp0;rw [add_lit];exact hst) (fun h=>by cases h);simp only [grown,newBlk,Option.some.injEq,Prod.mk.injEq] at h;obtain ⟨rfl,rfl⟩:=h;have hle:Le m (ext m s.n ⟨i.r,i.d+p.off,(old++new).length,ti.size,true,i.tot⟩):=ext_le (hs.freshM s.n (nR _))
           have hsr:=share_sound (i':=⟨i.r,i.d+p.off,(old++new).length,ti.size,true,i.tot⟩) (o':=.cells ⟨T.ofList (old++new) 0 .leaf,(old++new).length,e,ti.size,true,false⟩)
            (w1:=w.setCells i.r (i.d+p.off+q*ti.size) news) hs i2 rfl i1 rfl (size_setCells _ _ _) (fun x hx=>heap_setCells_other _ _ _ _ hx) ?_
           ·refine ⟨_,rfl,_,_,_,hrun,hle,hsr,below_setCells i4 _ _ _,.slice _ _ _ _ _ ⟨rfl,_,ext_same _ _ _,rfl⟩ (.inr ⟨hroom,_,ext_same _ _ _,rfl,?_,?_⟩) (nR _)⟩
            ·simp only [Nat.zero_add];exact hlen.symm
            ·simpa using hfit
           ·refine ⟨rfl,rfl,rfl,by show i.d+p.off+(old++new).length<=i.tot;omega,c2,fz,by rw [<-helem];exact g1,by rw [g2];exact hsz,fun j hj=>?_,by rw [<-helem];exact hfz⟩;have hj':j<(old++new).length:=hj;have hll:(old++new).length=(olds++news).length:=(o1.append hl).1;refine ⟨(old++new)[j],(olds++news)[j]'(by omega),by rw [T.get_ofList,if_pos (by omega)];simp,?_,((o1.append hl).2 j _ _ (gE hj') (gE (by omega))).mono hle⟩;show c2[i.d+p.off+j]?=_;rw [g3];by_cases hjo:j<olds.length
            ·rw [if_neg (by omega),List.getElem_append_left hjo];have:=o3 j olds[j] (gE hjo);rw [add_lit,cell_of_row w i.r _ cw kb.elem fz hw] at this;exact this
            ·rw [if_pos (by omega),List.getElem_append_right (by omega),<-gE];congr 1;omega
          ·omega
        ·exact grows hkill (by omega) h
    ·cases h
 ·cases h
theorem args2 {x y:Value} {args:Array Value} (hl:LRel m [x,y] args.toList):∃ x' y',args=#[x',y']/\VRel m x x'/\VRel m y y':=by
 have:=hl.1;simp at this
 match args,this,hl with
 | ⟨[u1,u2]⟩,_,hl=>exact ⟨u1,u2,rfl,hl.tail.1,hl.tail.2.tail.1⟩
theorem args1 {x:Value} {args:Array Value} (hl:LRel m [x] args.toList):∃ x',args=#[x']/\VRel m x x':=by
 have:=hl.1;simp at this
 match args,this,hl with
 | ⟨[u1]⟩,_,hl=>exact ⟨u1,rfl,hl.tail.1⟩
theorem SR.garbage (h:SR B X m s w) (o:Obj):SR B X m s (w.drew.alloc o):=⟨fun b p i h1 h2 h3=>by
 obtain ⟨k1,k2,k3⟩:=h.rel b p i h1 h2 h3
 exact ⟨k1.other (Below.heap_alloc w.drew _ _ k3),k2,by simp;omega⟩,h.inj,h.freshH,h.freshM,h.gh,fun r p hr=>by
 obtain ⟨k1,k2,k3⟩:=h.kp r p hr
 exact ⟨by rw [Below.heap_alloc w.drew _ _ (aS.1 k1).1];exact k1,k2,k3⟩,fun b i hi=>by have:=h.lt b i hi;simp;omega⟩
theorem any_one:∀ n:Nat,(repL n [Value.chan none]).all oneV=true
 | 0=>rfl
 | n+1=>by rw [repL,List.all_append,any_one n];rfl
theorem any_rel:∀ (n:Nat) (news:List Value),news.length=n->(∀ u∈news,oneV u=true)->LRel m (repL n [Value.chan none]) news
 | 0,[],_,_=>LRel.nil m
 | 0,_::_,h,_=>by simp at h
 | n+1,[],h,_=>by simp at h
 | n+1,u::us,h,h1=>LRel.cons (.any u (h1 u (by simp))) (any_rel n us (by simpa using h) (fun v hv=>h1 v (by simp [hv])))
theorem appendTok_sound (hC:CtxOK ω C) (hs:SR B X m s w) (hB:Bs ω C B w) {t tx ty:TypeId} {x x':Value} {k:Nat} (hx:VRel m x x') (hy:VRel m (.chan (some k)) (ω k)) {r:R} (h:appendTok C t tx x k s=some (r,s')) :
 OpOK C B X m s' w r ((do let z <-Builtin.append_ #[t,tx] ty #[x',ω k];pure (Next.value z):Sem Next).run C.P w):=by
 unfold appendTok at h
 split at h
 ·rename_i e e' hu hux;have hun:=hC.un _ _ hu;have hunx:=hC.un _ _ hux
  split at h
  ·rename_i ti hty
   cases hc:(C.rd k && (emptyV s x && (Nat.beq ti.size 1 && (Nat.ble ti.bytes 1000000 && hasZero ti)))) with
   | false=>rw [hc] at h;cases h
   | true =>
    rw [hc] at h;simp only [cond_true] at h;simp only [Bool.and_eq_true] at hc;obtain ⟨hrd,hem,hsz,hby,hhz⟩:=hc;have hsz':=bE hsz;have hby':=Nat.le_of_ble_eq_true hby
    obtain ⟨z,hz,hzt⟩:∃ z,ti.zero=some z/\tupB z=false:=by
     unfold hasZero at hhz
     split at hhz
     ·rename_i z hz;exact ⟨z,hz,by simpa using hhz⟩
     ·cases hhz
    have hti:=hC.ty _ _ hty
    have hzs:z.cells.size=ti.size:=by rw [cells_arr,(hC.zero e ti z hty hz hzt).2];simp
    split at h
    ·rename_i n hln;obtain ⟨v',hr,hvv⟩:=hC.len tx (some k) _ hln m (ω k) ty w hy;obtain rfl:=int_inv hvv
     rcases hB.rd k hrd with e0 | ⟨p,n',c,news,e0,h2,h3,h4,h5,h6⟩
     ·rw [e0] at hr;simp [Builtin.len_,run_underlying hunx,goInt] at hr
      obtain rfl:n=0:=by omega
      obtain ⟨v,rfl,hv⟩:=appendTo_sound (ty:=ty) (y':=ω k) (news:=[]) hC hs hB.le hun hty hz hzt hby' hx (any_rel 0 [] rfl (fun u hu=>by cases hu)) (any_one 0) (by simp) ⟨.inl (by rw [e0];exact Src.ofNil w hunx 0)⟩ h;exact VOK.op hv
     ·rw [e0] at hr;simp [Builtin.len_,run_underlying hunx,goInt] at hr
      obtain rfl:n'=n:=by omega
      obtain ⟨v,rfl,hv⟩:=appendTo_sound (ty:=ty) (y':=ω k) (news:=news) hC hs hB.le hun hty hz hzt hby' hx (any_rel _ news h4 h6) (any_one _) (by rw [h4,hsz'];omega) ⟨.inl (by rw [e0];exact Src.ofSlice w hunx p _ c news (by rw [hsz'];omega) h5 (fun u hu=>oneV_cell (h6 u hu)))⟩ h;exact VOK.op hv
    cases h
    obtain ⟨p',rfl⟩:∃ p',x'=.slice (some p') 0 0:=by
     unfold emptyV at hem
     split at hem
     ·rename_i a
      split at hem
      ·rename_i q hq;obtain ⟨p',c',rfl,hor⟩:=slice_inv hx;obtain ⟨i,hi⟩:=slice_map hx;obtain ⟨_,⟨_,a2,_⟩,_⟩:=blk_at hs hq hi
       rcases hor with ⟨_,hcr,_⟩ | ⟨_,_,rfl⟩
       ·rcases hcr with rfl | ⟨_,j,j1,j2,_⟩
        ·exact ⟨p',rfl⟩
        ·rw [hi] at j1;cases j1;rw [<-a2,j2] at hem;cases hem
       ·exact ⟨p',rfl⟩
      ·cases hem
     ·cases hem
    have go:∀ (n:Nat) (news:List Value),n<=1000000->Src C.P ti.size tx (ω k) n news w->OpOK C B X m s w (.val (.chan none)) ((do let z <-Builtin.append_ #[t,tx] ty #[.slice (some p') 0 0,ω k];pure (Next.value z):Sem Next).run C.P w):=by
     intro n news hn hsrc
     have hAS:ASrc C.P e ti z tx (ω k) n news w:=⟨.inl hsrc⟩
     by_cases h0:n=0
     ·subst h0;have hnil:news=[]:=List.length_eq_zero_iff.1 (by rw [hsrc.newsLen];simp);subst hnil;have hrun:=app_room (w':=w) t tx ty e ti z hun hti hz hzs hby' (some p') 0 0 (ω k) 0 [] hAS (by omega) (fun p hp=>by simp [storeCells]) (fun h=>by cases h);exact VOK.op ⟨_,w,m,hrun,Le.refl _,hs,bR _ _,.any _ rfl⟩
     ·have hfirst:=run_firstCells_some (P:=C.P) w.drew ti.size 0 p' 0 0 [] (by simp) (fun j v h=>by simp at h);have hrun:=app_grow t tx ty e ti z hun hti hz hzs hby' (some p') 0 0 [] hfirst (ω k) n news hAS (by omega) (by omega);exact VOK.op ⟨_,_,m,hrun,Le.refl _,hs.garbage _,((bR B w).drew).alloc hB.le _,.any _ rfl⟩
    rcases hB.rd k hrd with e0 | ⟨p,n,c,news,e0,h2,h3,h4,h5,h6⟩
    ·exact go 0 [] (by omega) (by rw [e0];exact Src.ofNil w hunx 0)
    ·refine go n news h2 ?_;rw [e0];exact Src.ofSlice w hunx p n c news (by rw [hsz'];omega) h5 (fun u hu=>oneV_cell (h6 u hu))
  ·cases h
 ·cases h
theorem tok_inv {k:Nat} {v:Value} (h:VRel m (.chan (some k)) v):v=ω k:=by
 cases h with
 | plain v h=>cases h
 | tok k h=>rfl
theorem append_sound (hC:CtxOK ω C) (hs:SR B X m s w) (hBs:Bs ω C B w) {ts:List TypeId} {vs:List Value} {args:Array Value} (hl:LRel m vs args.toList) {ty:TypeId} {r:R} (h:biAppend C ts vs s=some (r,s')) :
 OpOK C B X m s' w r ((do let z <-Builtin.append_ ts.toArray ty args;pure (Next.value z):Sem Next).run C.P w):=by
 have hB:=hBs.le;unfold biAppend at h
 split at h
 ·rename_i t tx x k;obtain ⟨x',y',rfl,hx,hy⟩:=args2 hl;obtain rfl:=tok_inv hy;exact appendTok_sound hC hs hBs hx hy h
 ·rename_i t tx x y;obtain ⟨x',y',rfl,hx,hy⟩:=args2 hl;unfold appendV at h
  split at h
  ·rename_i e hu;have hun:=hC.un _ _ hu
   split at h
   ·rename_i ti dx hty hdx;have hdx':=hC.un _ _ hdx
    cases hb:Nat.ble ti.bytes 1000000 with
    | false=>simp [hb] at h
    | true =>
     simp only [hb,cond_true] at h
     split at h
     ·rename_i k new hsrc
      cases ho:(new.all oneV && hasZero ti) with
      | false=>simp [ho] at h
      | true =>
       simp only [ho,cond_true] at h;rw [Bool.and_eq_true] at ho
       obtain ⟨z,hz,hzt⟩:∃ z,ti.zero=some z/\tupB z=false:=by
        have h2:=ho.2;unfold hasZero at h2
        split at h2
        ·rename_i z hz;exact ⟨z,hz,by simpa using h2⟩
        ·cases h2
       obtain ⟨news,g1,g2,g3⟩:=appSrc_sound hC hs hty hz hzt hdx' hy hsrc ho.1;obtain ⟨v,rfl,hv⟩:=appendTo_sound (ty:=ty) hC hs hB hun hty hz hzt (Nat.le_of_ble_eq_true hb) hx g1 ho.1 g2 g3 h;exact VOK.op hv
     ·cases h
   ·cases h
  ·cases h
 ·cases h
theorem len_sound (hC:CtxOK ω C) (hs:SR B X m s w) {ts:List TypeId} {vs:List Value} {args:Array Value} (hl:LRel m vs args.toList) {ty:TypeId} {r:R} (h:biLen C ts vs s=some (r,s')) :
 OpOK C B X m s' w r ((do let z <-Builtin.len_ ts.toArray ty args;pure (Next.value z):Sem Next).run C.P w):=by
 unfold biLen at h
 split at h
 ·rename_i t k;obtain ⟨x',rfl,hx⟩:=args1 hl;unfold lenTok at h
  split at h
  ·rename_i v hv
   cases h
   obtain ⟨v',hr,hvv⟩:=hC.len t k v hv m x' ty w hx;exact VOK.op (VOK.same hs hr hvv)
  ·cases h
 ·rename_i t x hno;clear hno;obtain ⟨x',rfl,hx⟩:=args1 hl
  split at h
  ·rename_i e hu;have hun:=hC.un _ _ hu
   split at h
   ·rename_i p k c
    cases h
    have:∃ p' c',x'=.slice p' k c':=by
     cases hx with
     | plain v h=>exact ⟨_,_,rfl⟩
     | slice a a' n c c'=>exact ⟨_,_,rfl⟩
     | slice0 a a' h0=>exact ⟨_,_,rfl⟩
    obtain ⟨p',c',rfl⟩:=this;exact VOK.op (VOK.same hs (v':=.int .i64 k) (by simp [Builtin.len_,run_underlying hun,goInt]) (.plain _ rfl))
   ·cases h
  ·rename_i hu;have hun:=hC.un _ _ hu
   split at h
   ·rename_i b
    cases h
    obtain rfl:=str_inv hx;exact VOK.op (VOK.same hs (v':=.int .i64 b.size) (by simp [Builtin.len_,run_underlying hun,goInt]) (.plain _ rfl))
   ·cases h
  ·rename_i kt et hu;have hun:=hC.un _ _ hu
   split at h
   ·cases h
    rcases mapv_inv hx with ⟨_,rfl⟩ | ⟨_,_,e,_⟩
    ·exact VOK.op (VOK.same hs (v':=.int .i64 0) (by simp [Builtin.len_,run_underlying hun,goInt]) (.plain _ rfl))
    ·cases e
   ·rename_i b
    split at h
    ·rename_i es ck hb
     cases h
     rcases mapv_inv hx with ⟨e,_⟩ | ⟨b',i',e,e2,rfl⟩
     ·cases e
     ·cases e
      obtain ⟨es',h2,h3,_⟩:=map_obj hs hb e2;exact VOK.op (VOK.same hs (v':=.int .i64 es.length) (by simp [Builtin.len_,run_underlying hun,getObj_run h2,goInt,h3.1]) (.plain _ rfl))
    ·cases h
   ·cases h
  ·rename_i k e hu;have hun:=hC.un _ _ hu
   cases h
   exact VOK.op (VOK.same hs (v':=.int .i64 k) (by simp [Builtin.len_,run_underlying hun,goInt]) (.plain _ rfl))
  ·rename_i e hu;have hun:=hC.un _ _ hu
   split at h
   ·rename_i k e2 hu2;have hun2:=hC.un _ _ hu2
    cases h
    exact VOK.op (VOK.same hs (v':=.int .i64 k) (by simp [Builtin.len_,run_underlying hun,run_underlying hun2,goInt]) (.plain _ rfl))
   ·cases h
  ·cases h
 ·cases h
theorem cap_sound (hC:CtxOK ω C) (hs:SR B X m s w) {ts:List TypeId} {vs:List Value} {args:Array Value} (hl:LRel m vs args.toList) {ty:TypeId} {r:R} (h:biCap C ts vs s=some (r,s')) :
 OpOK C B X m s' w r ((do let z <-Builtin.cap_ ts.toArray ty args;pure (Next.value z):Sem Next).run C.P w):=by
 unfold biCap at h
 split at h
 ·rename_i t x;obtain ⟨x',rfl,hx⟩:=args1 hl
  split at h
  ·rename_i e hu;have hun:=hC.un _ _ hu
   split at h
   ·cases h
    obtain rfl:=nilsl_inv hx;exact VOK.op (VOK.same hs (v':=.int .i64 0) (by simp [Builtin.cap_,run_underlying hun,goInt]) (.plain _ rfl))
   ·rename_i p k c;obtain ⟨p',c',rfl,hor⟩:=slice_inv hx
    have fin:c'=c->some (R.val (.int .i64 c),s)=some (r,s')->OpOK C B X m s' w r ((do let z <-Builtin.cap_ [t].toArray ty #[.slice (some p') k c'];pure (Next.value z):Sem Next).run C.P w):=by
     intro e he;subst e
     cases he
     exact VOK.op (VOK.same hs (v':=.int .i64 c') (by simp [Builtin.cap_,run_underlying hun,goInt]) (.plain _ rfl))
    split at h
    ·rename_i kb size hkb hsz;obtain ⟨i,i1⟩:=slice_map hx;obtain ⟨i2,⟨a1,a2,a3,_⟩,_,_⟩:=blk_at hs hkb i1
     have fixed:(kb.opn=true->kb.esz=size/\p.off+c*size≠kb.len)->c'=c:=by
      intro hno
      rcases hor with ⟨hp,hcr,_⟩ | ⟨_,rfl,rfl⟩
      ·rcases hcr with rfl | ⟨_,i',j1,j2,j3,_⟩
       ·rfl
       ·rw [i1] at j1;cases j1;obtain ⟨x1,x2⟩:=hno (by rw [<-a2];exact j2);rw [a3,x1,a1] at j3;exact absurd j3 x2
      ·rfl
     cases ho:kb.opn with
     | false =>
      simp only [ho,cond_false] at h;exact fin (fixed (fun e=>by rw [ho] at e;cases e)) h
     | true =>
      simp only [ho,cond_true] at h
      cases hez:Nat.beq kb.esz size with
      | false=>simp [hez] at h
      | true =>
       simp only [hez,cond_true] at h
       cases hend:Nat.beq (p.off+c*size) kb.len with
       | true=>simp [hend] at h
       | false =>
        simp only [hend,cond_false] at h;exact fin (fixed (fun _=>⟨bE hez,Nat.ne_of_beq_eq_false hend⟩)) h
    ·cases h
   ·cases h
  ·cases h
 ·cases h
end
end Go.Proofs.YtenfkghoolegfaaGreatDoor.Ev
namespace Go.Proofs.YtenfkghoolegfaaGreatDoor.Ev
open Go.RowKit
variable {ω:Nat->Value}
section
variable {C:Ctx} {B:Nat} {X:Aux} {m:M ω} {s s':AS} {w:World} {a:T Value} {act:Act} {n:Nat}
theorem copyTo_sound (hs:SR B X m s w) {P:Program} {p p':Addr} {q c c' size:Nat} {y y':Value} (hx:VRel m (.slice (some p) q c) (.slice (some p') q c')) (hy:VRel m y y') {r:R} (h:copyTo s p q size y=some (r,s')) :
 ∃ v k w' cells,r=.val v/\v=.int .i64 (Nat.min k q:Nat)/\(Builtin.lenOf y').run P w=.ok k w/\(Builtin.firstCells size (Nat.min k q) y').run P w=.ok cells w/\(storeCells p' cells.toList).run P w=.ok () w'/\SR B X m s' w'/\Below B w w':=by
 have store:∀ {l l':List Value} {s2:AS},LRel m l l'->(q=0->l=[])->writeL s p l=some s2->∃ w',(storeCells p' l').run P w=.ok () w'/\SR B X m s2 w'/\Below B w w':=by
  intro l l' s2 hl h0 hw;obtain ⟨p2,c2,e,hor⟩:=slice_inv hx
  cases e
  rcases hor with ⟨hp,_,_⟩ | ⟨rfl,_,_⟩
  ·exact writeL_sound hs hw hp hl
  ·have:=h0 rfl;subst this;have:l'=[]:=List.length_eq_zero_iff.1 (by rw [<-hl.1];rfl);subst this;exact ⟨w,by simp [storeCells],writeNil_sound hs (slice_map hx) hw,bR _ _⟩
 unfold copyTo at h
 split at h
 ·cases h
  obtain rfl:=nilsl_inv hy;exact ⟨_,0,w,#[],rfl,by simp,rfl,rfl,by simp [storeCells],hs,bR _ _⟩
 ·rename_i b k cc
  split at h
  ·rename_i l hl
   split at h
   ·rename_i s2 hw
    cases h
    obtain ⟨b',c2,rfl,hor⟩:=slice_inv hy
    obtain ⟨l',h1,h2,h3⟩:∃ l',LRel m l l'/\l'.length=Nat.min k q*size/\∀ j v,l'[j]?=some v->w.cell? (b'.add j)=some v:=by
     rcases hor with ⟨hp,_,_⟩ | ⟨rfl,_,_⟩
     ·exact readN_sound hs hl hp
     ·rw [show Nat.min 0 q=0 from Nat.zero_min q,Nat.zero_mul] at hl;obtain rfl:=readN_zero hl;exact ⟨[],LRel.nil m,by simp,fun j v h=>by simp at h⟩
    obtain ⟨w',g1,g2,g3⟩:=store h1 (fun e=>by
     subst e;rw [show Nat.min k 0=0 from Nat.min_zero k,Nat.zero_mul] at hl
     exact readN_zero hl) hw
    exact ⟨_,k,w',l'.toArray,rfl,rfl,rfl,run_firstCells_some w size (Nat.min k q) b' k c2 l' h2 h3,by simpa using g1,g2,g3⟩
   ·cases h
  ·cases h
 ·rename_i b
  split at h
  ·rename_i s2 hw
   cases h
   obtain rfl:=str_inv hy;obtain ⟨w',g1,g2,g3⟩:=store (LRel.plain (List.all_eq_true.2 fun v hv=>by obtain ⟨_,_,rfl⟩:=List.mem_map.1 hv;rfl)) (fun e=>by subst e;simp) hw;refine ⟨_,b.size,w',_,rfl,rfl,rfl,rfl,?_,g2,g3⟩
   have:((b.extract 0 (Nat.min b.size q)).data.map fun x=>Value.int .u8 x.toNat).toList=(b.data.toList.take (Nat.min b.size q)).map fun x=>Value.int .u8 x.toNat:=by
    rw [Array.toList_map];congr 1;simp [ByteArray.data_extract,List.extract_eq_take_drop]
   simp only [this];exact g1
  ·cases h
 ·cases h
theorem copy_sound (hC:CtxOK ω C) (hs:SR B X m s w) {ts:List TypeId} {vs:List Value} {args:Array Value} (hl:LRel m vs args.toList) {ty:TypeId} {r:R} (h:biCopy C ts vs s=some (r,s')) :
 OpOK C B X m s' w r ((do let z <-Builtin.copy_ ts.toArray ty args;pure (Next.value z):Sem Next).run C.P w):=by
 unfold biCopy at h
 split at h
 ·rename_i t t2 x y;obtain ⟨x',y',rfl,hx,hy⟩:=args2 hl
  split at h
  ·rename_i e hu;have hun:=hC.un _ _ hu
   split at h
   ·rename_i size hsz;obtain ⟨ti,hti,rfl⟩:=sizeT_sound hC hsz
    split at h
    ·obtain rfl:=nilsl_inv hx;unfold copyNil at h
     split at h
     ·rename_i p k c
      cases h
      have:∃ p' c',y'=.slice p' k c':=by
       cases hy with
       | plain v h=>exact ⟨_,_,rfl⟩
       | slice a a' n c c'=>exact ⟨_,_,rfl⟩
       | slice0 a a' h0=>exact ⟨_,_,rfl⟩
      obtain ⟨p',c',rfl⟩:=this;refine VOK.op (VOK.same hs (v':=.int .i64 0) ?_ (.plain _ rfl))
      cases p' <;> simp [Builtin.copy_,run_underlying hun,Builtin.lenOf,sizeOf,typeInfo,hti,Builtin.firstCells,loadCells,loadCellsFrom,goInt]
     ·rename_i b
      cases h
      obtain rfl:=str_inv hy;exact VOK.op (VOK.same hs (v':=.int .i64 0) (by simp [Builtin.copy_,run_underlying hun,Builtin.lenOf,sizeOf,typeInfo,hti,Builtin.firstCells,goInt]) (.plain _ rfl))
     ·cases h
    ·rename_i p q c;obtain ⟨p',c',e,_⟩:=slice_inv hx;subst e;obtain ⟨v,k,w',cells,rfl,rfl,g1,g2,g3,g4,g5⟩:=copyTo_sound (P:=C.P) hs hx hy h;refine VOK.op ⟨.int .i64 (Nat.min k q:Nat),w',m,?_,Le.refl _,g4,g5,.plain _ rfl⟩;simp [Builtin.copy_,run_underlying hun,g1,sizeOf,typeInfo,hti,g2,g3,goInt]
    ·cases h
   ·cases h
  ·cases h
 ·cases h
theorem plain_list {l l':List Value} (h:LRel m l l') (hp:l.all plainV=true):l'=l:=by
 apply List.ext_getElem?;intro i;by_cases hi:i<l.length
 ·obtain ⟨v',h1,h2⟩:=h.at_ (gE hi);rw [h1,gE hi,plain_inv h2 (List.all_eq_true.1 hp _ (List.getElem_mem hi))]
 ·rw [List.getElem?_eq_none (by rw [<-h.1];omega),List.getElem?_eq_none (by omega)]
theorem minmax_sound (hs:SR B X m s w) {b:Builtin} (hb:b=.min\/b=.max) {ts:List TypeId} {vs:List Value} {args:Array Value} (hl:LRel m vs args.toList) {ty:TypeId} {cs:Array Bool} {r:R} (h:biMinmax b C ts vs s=some (r,s')) :
 OpOK C B X m s' w r ((builtin b ts.toArray ty cs args).run C.P w):=by
 unfold biMinmax at h
 cases hp:vs.all plainV with
 | false=>simp [hp] at h
 | true =>
  simp only [hp,cond_true] at h
  split at h
  ·rename_i v hv
   cases hpv:plainV v with
   | false=>simp [hpv] at h
   | true =>
    simp only [hpv,cond_true,Option.some.injEq,Prod.mk.injEq] at h;obtain ⟨rfl,rfl⟩:=h;have e1:=plain_list hl hp
    have e2:args=vs.toArray:=by rw [<-e1]
    subst e2;have hr:=pureRun_run _ _ hv w;refine ⟨.value v,w,m,?_,Le.refl _,hs,bR _ _,.plain v hpv⟩;rw [<-hr]
    rcases hb with rfl | rfl <;> rfl
  ·cases h
theorem clear_sound (hC:CtxOK ω C) (hs:SR B X m s w) {ts:List TypeId} {vs:List Value} {args:Array Value} (hl:LRel m vs args.toList) {ty:TypeId} {r:R} (h:biClear C ts vs s=some (r,s')) :
 OpOK C B X m s' w r ((do let z <-Builtin.clear_ ts.toArray ty args;pure (Next.value z):Sem Next).run C.P w):=by
 have hu0:VRel m (.tuple #[]) (.tuple #[]):=by
  first
   | exact .plain _ rfl
   | exact LRel.tuple (l:=[]) (l':=[]) (LRel.nil m)
 unfold biClear at h
 split at h
 ·rename_i t a n c;obtain ⟨x',rfl,hx⟩:=args1 hl
  split at h
  ·rename_i e hu;have hun:=hC.un _ _ hu
   split at h
   ·rename_i z hz;obtain ⟨p',c',rfl,hor⟩:=slice_inv hx
    cases hn:Nat.beq n 0 with
    | true =>
     rw [hn] at h;obtain rfl:=bE hn
     cases h
     exact VOK.op (VOK.same hs (v':=.tuple #[]) (by simp [Builtin.clear_,run_underlying hun]) hu0)
    | false =>
     rw [hn] at h;simp only [cond_false] at h
     split at h
     ·rename_i s2 hw
      cases h
      obtain ⟨k,rfl⟩:∃ k,n=k+1:=⟨n-1,by have:=Nat.ne_of_beq_eq_false hn;omega⟩
      rcases hor with ⟨hp,_,_⟩ | ⟨h0,_,_⟩
      ·obtain ⟨i,v,hi,hzv,rfl,hpl,hlen⟩:=zeroC_sound hC hz;obtain ⟨w',g1,g2,g3⟩:=writeL_sound (P:=C.P) hs hw hp (LRel.plain (repL_plain _ hpl (k+1)));refine VOK.op ⟨.tuple #[],w',m,?_,Le.refl _,g2,g3,hu0⟩
       have hzc:(Builtin.zeroCells v.cells (k+1)).toList=repL (k+1) (cellsOf v):=by
        have:=rep_arr v.cells (k+1);unfold Builtin.zeroCells;rw [this,cells_list]
       simp [Builtin.clear_,run_underlying hun,zeroValue,typeInfo,hi,hzv,hzc,g1]
      ·cases h0
     ·cases h
   ·cases h
  ·cases h
 ·rename_i t;obtain ⟨x',rfl,hx⟩:=args1 hl
  split at h
  ·rename_i e hu;have hun:=hC.un _ _ hu
   cases h
   obtain rfl:=nilsl_inv hx;exact VOK.op (VOK.same hs (v':=.tuple #[]) (by simp [Builtin.clear_,run_underlying hun]) hu0)
  ·cases h
 ·cases h
theorem builtin_sound (hC:CtxOK ω C) (hs:SR B X m s w) (hB:Bs ω C B w) {b:Builtin} {ts:List TypeId} {vs:List Value} {args:Array Value} (hl:LRel m vs args.toList) {ty:TypeId} {cs:Array Bool} {r:R} (h:builtinV C b ts vs s=some (r,s')) :
 OpOK C B X m s' w r ((builtin b ts.toArray ty cs args).run C.P w):=by
 unfold builtinV builtinK at h
 split at h
 ·exact append_sound hC hs hB hl h
 ·exact len_sound hC hs hl h
 ·exact cap_sound hC hs hl h
 ·exact copy_sound hC hs hl h
 ·exact delete_sound hC hs hl h
 ·exact clear_sound hC hs hl h
 ·exact minmax_sound hs (.inl rfl) hl h
 ·exact minmax_sound hs (.inr rfl) hl h
 ·cases h
theorem func_inv {g:FuncId} {fs cs:Array Value} {v:Value} (h:VRel m (.func (.func g) fs cs) v):∃ fs' cs',v=.func (.func g) fs' cs'/\LRel m fs.toList fs'.toList/\LRel m cs.toList cs'.toList:=by
 cases h with
 | plain v h=>simp [plainV] at h
 | func f fs fs' cs cs' h1 h2 h3 h4=>exact ⟨fs',cs',rfl,LRel.of_arr h1 h3,LRel.of_arr h2 h4⟩
theorem yield_inv {l:Nat} {fs cs:Array Value} {v:Value} (h:VRel m (.func (.yield l) fs cs) v):∃ i,m l=some i/\v=.func (.yield i.r) #[] #[]:=by
 cases h with
 | plain v h=>simp [plainV] at h
 | yield b i h=>exact ⟨i,h,rfl⟩
theorem find_arr {α:Type} (xs:Array α) (p:α->Bool):xs.find? p=xs.toList.find? p:=by simp
theorem call_sound (hC:CtxOK ω C) (hs:SR B X m s w) (ht:TR m n a act) (hB:Bs ω C B w) {c:Call} {ty:TypeId} {r:R} (h:opCall c C a s=some (r,s')) :
 OpOK C B X m s' w r ((do let d <-resolve act.eval c ty;invoke d.target d.args:Sem Next).run C.P w):=by
 unfold opCall at h
 split at h
 ·rename_i b vs hc hv;have hl:=opnds_sound ht hv
  have hl':LRel m vs (c.args.map act.eval).toList:=by simpa using hl
  simp only [resolve,hc,Sem.run_bind];exact builtin_sound hC hs hB hl' h
 ·rename_i f vs hc hv;have hl:=opnds_sound ht hv
  have hl':LRel m vs (c.args.map act.eval).toList:=by simpa using hl
  split at h
  ·rename_i g fs cs hf
   cases h
   obtain ⟨fs',cs',e,h1,h2⟩:=func_inv (oS ht hf);refine ⟨fs'++c.args.map act.eval++cs',by simpa using (h1.append hl).append h2,?_,hs⟩;simp [resolve,hc,e,Deferred.ofValue,invoke]
  ·rename_i l fs cs hf
   cases h
   obtain ⟨i,h1,e⟩:=yield_inv (oS ht hf);refine ⟨i,c.args.map act.eval,h1,hl',?_,hs⟩;simp [resolve,hc,e,Deferred.ofValue,invoke]
  ·cases h
 ·rename_i rc name vs hc hv;have hl:=opnds_sound ht hv
  split at h
  ·rename_i t v hr;obtain ⟨v',hv',e⟩:=iface_inv (oS ht hr)
   have hx:((#[Value.iface t v']++c.args.map act.eval).extract 1 (#[Value.iface t v']++c.args.map act.eval).size)=c.args.map act.eval:=by
    apply Array.ext';simp [List.extract_eq_take_drop];rw [List.take_of_length_le (by simp)]
   have h0:(#[Value.iface t v']++c.args.map act.eval)[0]?=some (.iface t v'):=by rw [Array.getElem?_append_left (by simp)];rfl
   have go:∀ (g:FuncId) (rv:Value),(method (C.P.types.size+Made.depth) t v' name).run C.P w=.ok (g,rv) w ->
    (do let d <-resolve act.eval c ty;invoke d.target d.args:Sem Next).run C.P w=(callFunc g (#[rv]++c.args.map act.eval)).run C.P w:=by
    intro g rv hmeth;simp only [resolve,hc,e,Sem.run_bind,Sem.run_pure,Result.andThen,invoke];simp only [h0,hx,callMethod,Sem.run_bind,run_program,Result.andThen];rw [hmeth]
   unfold invokeV at h
   split at h
   ·rename_i g rv hm0
    cases h
    obtain ⟨rv',hrv,hrun⟩:=hC.meth t name v g rv hm0 m v' hv';exact ⟨_,by simpa using LRel.cons hrv hl,go g rv' (hrun w),hs⟩
   unfold invokeT at h
   split at h
   ·rename_i ti hti;have hti':=hC.ty _ _ hti
    split at h
    ·rename_i mt hm
     have hm':ti.methods.find? (fun x=>x.name==name)=some mt:=by rw [find_arr];exact hm
     have mk:∀ (g:FuncId) (b:Bool),mt.path.toList=[]->mt.func=some (g,b)->(∀ o,(receiverAt t (.val v') b o).run C.P w=.ok v' w) ->
      (do let d <-resolve act.eval c ty;invoke d.target d.args:Sem Next).run C.P w=(callFunc g (#[v']++c.args.map act.eval)).run C.P w:=by
      intro g b hp hg hrec
      have hmeth:∀ q,(method (q+1) t v' name).run C.P w=.ok (g,v') w:=by
       intro q;simp [method,typeInfo,hti',hm',hp,follow,hg,hrec]
      have hd:C.P.types.size+Made.depth=(C.P.types.size+99)+1:=rfl;exact go g v' (by rw [hd,hmeth])
     have hargs:LRel m (v::vs) (#[v']++c.args.map act.eval).toList:=by simpa using LRel.cons hv' hl
     split at h
     ·rename_i g e2 hp hg hu
      cases h
      have hun:=hC.un _ _ hu;exact ⟨_,hargs,mk g true hp hg (fun o=>by simp [receiverAt,run_underlying hun,Place.get]),hs⟩
     ·rename_i g d hp hg hu;have hun:=hC.un _ _ hu
      cases hd:isPtrD d with
      | true=>simp [hd] at h
      | false =>
       simp only [hd,cond_false,Option.some.injEq,Prod.mk.injEq] at h;obtain ⟨rfl,rfl⟩:=h;refine ⟨_,hargs,mk g false hp hg (fun o=>?_),hs⟩
       cases d <;> first | (simp [isPtrD] at hd;done) | simp [receiverAt,run_underlying hun,Place.get]
     ·cases h
    ·cases h
   ·cases h
  ·cases h
 ·cases h
theorem al_new (hC:CtxOK ω C) (ht:TR m n a act) (hB:B<=w.heap.size) {o:Oper} {q:AObj} {f:Nat->Value} (h:alOf o.op C a=some (q,f)):NewOK B m w q f ((execOp act.eval o).run C.P w):=by
 cases ho:o.op
 case alloc=>rw [ho] at h;simp only [execOp,ho];exact alloc_new (a:=a) hC hB h
 case box=>rw [ho] at h;simp only [execOp,ho];exact box_new (C:=C) ht hB h
 case buildSlice=>rw [ho] at h;simp only [execOp,ho];exact buildSlice_new hC ht hB h
 case makeSlice=>rw [ho] at h;simp only [execOp,ho];exact makeSlice_new hC ht hB h
 case convert=>rw [ho] at h;simp only [execOp,ho];exact conv_new hC ht hB h
 case makeMap t r =>
  rw [ho] at h;simp only [execOp,ho]
  cases r
  case none=>exact makeMap_new (a:=a) hB h
  case some=>cases h
 all_goals (rw [ho] at h;cases h)
theorem doAl_sound (hC:CtxOK ω C) (hs:SR B X m s w) (ht:TR m n a act) (hB:B<=w.heap.size) {o:Oper} {r:R} (h:doAl s (alOf o.op C a)=some (r,s')) :
 OpOK C B X m s' w r ((execOp act.eval o).run C.P w):=by
 cases h1:alOf o.op C a with
 | none=>rw [h1] at h;cases h
 | some al =>
  obtain ⟨q,f⟩:=al;rw [h1] at h
  cases h
  exact NewOK.op hs hB (al_new hC ht hB h1)
theorem range_sound (hC:CtxOK ω C) (hs:SR B X m s w) (ht:TR m n a act) (hB:B<=w.heap.size) {t:TypeId} {x:Operand} {r:R} (h:opRange t x C a s=some (r,s')) :
 OpOK C B X m s' w r ((do let z <-Instr.range t (act.eval x);pure (Next.value z):Sem Next).run C.P w):=by
 unfold opRange at h
 have fin:∀ (o:AObj) (it:Obj) (i:Info),i=⟨w.heap.size,0,0,0,false,0⟩->doAl s (some (o,ptrV))=some (r,s')->ORel m (w.alloc it) i o->(do let z <-Instr.range t (act.eval x);pure (Next.value z):Sem Next).run C.P w=.ok (.value (.pointer (some ⟨w.heap.size,0,none⟩))) (w.alloc it) ->
  OpOK C B X m s' w r ((do let z <-Instr.range t (act.eval x);pure (Next.value z):Sem Next).run C.P w):=by
  rintro o it i rfl h ho hr
  cases h
  exact NewOK.op hs hB ⟨_,_,_,hr,rfl,by simp,fun k hk=>Below.heap_alloc w _ k hk,(bR _ _).alloc hB _,ho,fun m' b hb=>ptr_new rfl m' b hb⟩
 split at h
 ·rename_i kt et hu hx;have hun:=hC.un _ _ hu;have hv:=nilmap_inv (oS ht hx);exact fin _ (.mapIter none 0 #[] 0) _ rfl h ⟨rfl,none,by simpa using heap_alloc_new w _,.inl ⟨rfl,rfl⟩⟩ (by simp [Instr.range,run_underlying hun,hv])
 ·rename_i kt et b hu hx;have hun:=hC.un _ _ hu;obtain ⟨i,hi,hv⟩:=map_inv (oS ht hx)
  split at h
  ·rename_i es ck hb;obtain ⟨es',h2,h3,_⟩:=map_obj hs hb hi;exact fin _ (.mapIter (some i.r) ck #[] ck) _ rfl h ⟨rfl,some i.r,by simpa using heap_alloc_new w _,.inr ⟨b,i,rfl,hi,rfl⟩⟩ (by simp [Instr.range,run_underlying hun,hv,getObj_run h2])
  ·cases h
 ·rename_i q hu hx;have hun:=hC.un _ _ hu;have hv:=str_inv (oS ht hx);exact fin _ (.stringIter q 0) _ rfl h ⟨rfl,by simpa using heap_alloc_new w _⟩ (by simp [Instr.range,run_underlying hun,hv])
 ·cases h
theorem cand_rel {es es':List MapEntry} (h:EL m es es') (since:Nat) (seen:List Nat) :
 ((candL es since seen=[none])->candL es' since seen=[none])/\(∀ e,candL es since seen=[some e]->∃ e',candL es' since seen=[some e']/\ERel m e e'):=by
 have filt:∀ (p:Nat->Bool) {l l':List MapEntry},EL m l l'->EL m (l.filter fun e=>p e.born) (l'.filter fun e=>p e.born):=by
  intro p l
  induction l with
  | nil=>intro l' h;cases l' with | nil=>exact h | cons e l'=>exact absurd h.1 (by simp)
  | cons e l ih =>
   intro l' h
   cases l' with
   | nil=>exact absurd h.1 (by simp)
   | cons e' l' =>
    obtain ⟨h1,h2⟩:=h.tail;have hb:e.born=e'.born:=h1.2.2.2;have h3:=ih h2;rw [List.filter_cons,List.filter_cons,hb]
    cases p e'.born with
    | false=>simpa using h3
    | true =>
     simp only [if_true];refine ⟨by simp [h3.1],fun k x x' hx hx'=>?_⟩
     cases k with
     | zero=>cases hx;cases hx';exact h1
     | succ k=>exact h3.2 k x x' hx hx'
 have h1:=filt (fun b=>!seen.contains b) h;have h2:=filt (fun b=>decide (b<since)) h1;have h3:=filt (fun b=>decide (b ≥ since)) h1
 have gen:∀ {o o' k k':List MapEntry},EL m o o'->EL m k k'->((cond o.isEmpty [none] []++(o++k).map some=[none])->cond o'.isEmpty [none] []++(o'++k').map some=[none]) /\
  (∀ e,cond o.isEmpty [none] []++(o++k).map some=[some e]->∃ e',cond o'.isEmpty [none] []++(o'++k').map some=[some e']/\ERel m e e'):=by
  intro o o' k k' ho hk
  cases o with
  | nil =>
   obtain rfl:o'=[]:=List.length_eq_zero_iff.1 ho.1.symm;refine ⟨fun h=>?_,fun e h=>by simp at h⟩
   have:k=[]:=by simpa using h
   subst this;obtain rfl:k'=[]:=List.length_eq_zero_iff.1 hk.1.symm;rfl
  | cons x o =>
   cases o' with
   | nil=>exact absurd ho.1 (by simp)
   | cons x' o' =>
    refine ⟨fun h=>by simp at h,fun e h=>?_⟩;simp at h;obtain ⟨rfl,rfl,rfl⟩:=h;obtain rfl:o'=[]:=List.length_eq_zero_iff.1 (by simpa using ho.1.symm);obtain rfl:k'=[]:=List.length_eq_zero_iff.1 hk.1.symm;exact ⟨x',rfl,ho.2 0 _ _ rfl rfl⟩
 exact gen h2 h3
theorem EL.all_born {es es':List MapEntry} (h:EL m es es') (p:Nat->Bool):es.all (fun e=>p e.born)=es'.all (fun e=>p e.born):=by
 induction es generalizing es' with
 | nil=>cases es' with | nil=>rfl | cons e l=>exact absurd h.1 (by simp)
 | cons e l ih =>
  cases es' with
  | nil=>exact absurd h.1 (by simp)
  | cons e' l' =>
   obtain ⟨h1,h2⟩:=h.tail;have hb:e.born=e'.born:=h1.2.2.2;rw [List.all_cons,List.all_cons,hb,ih h2]
theorem EL.isEmpty {es es':List MapEntry} (h:EL m es es'):es.isEmpty=es'.isEmpty:=by
 cases es <;> cases es' <;> first | rfl | exact absurd h.1 (by simp)
theorem setIter_sound {b:Nat} {o o':AObj} {it it':Obj} (hs:SR B X m s w) (hb:s.h.get b=some o) (ha:o.alive=true) {i:Info} (hi:m b=some i) (hw:w.heap[i.r]?=some it) (hit:∀ c e f,it≠.cells c e f)
 (ho:∀ w':World,w'.heap[i.r]?=some it'->ORel m w' i o') :
 (setObj i.r it').run C.P w=.ok () {w with heap:=w.heap.setIfInBounds i.r it'}/\SR B X m ⟨s.n,s.h.put b o'⟩ {w with heap:=w.heap.setIfInBounds i.r it'}/\Below B w {w with heap:=w.heap.setIfInBounds i.r it'}:=by
 obtain ⟨_,hB,hlt⟩:=hs.rel b o i hb ha hi;refine ⟨?_,upd_sound hs hb ha hi (by simp) (fun k hk=>?_) (ho _ ?_),⟨rfl,rfl,rfl,by simp,fun k hk=>?_⟩⟩
 ·cases it <;> first | (simp [setObj,Sem.run,hw];done) | exact absurd rfl (hit _ _ _)
 ·show (w.heap.setIfInBounds i.r _)[k]?=_;rw [Array.getElem?_setIfInBounds,if_neg (fun e=>hk e.symm)]
 ·show (w.heap.setIfInBounds i.r _)[i.r]?=_;rw [Array.getElem?_setIfInBounds,if_pos rfl,if_pos hlt]
 ·show (w.heap.setIfInBounds i.r _)[k]?=_;rw [Array.getElem?_setIfInBounds,if_neg (by omega)]
theorem next_sound (hs:SR B X m s w) (ht:TR m n a act) {x:Operand} {q:Bool} {ty:TypeId} {r:R} (h:opNext x q C a s=some (r,s')) :
 OpOK C B X m s' w r ((do let z <-Instr.next (act.eval x) q ty;pure (Next.value z):Sem Next).run C.P w):=by
 unfold opNext at h
 split at h
 ·rename_i b hx;obtain ⟨p',⟨_,i,hi,rfl⟩,hv⟩:=ptr_inv (oS ht hx);have hi':m b=some i:=hi
  split at h
  ·rename_i q pos hg;obtain ⟨⟨hd,hw⟩,hBi,hlt⟩:=hs.rel b _ i hg rfl hi';simp only [hd,Nat.add_zero] at hv;unfold nextSit at h
   cases hp:Nat.blt pos q.size with
   | false =>
    simp only [hp,cond_false,Option.some.injEq,Prod.mk.injEq] at h;obtain ⟨rfl,rfl⟩:=h
    have hnp:¬ pos<q.size:=fun e=>by rw [(Nat.blt_eq ▸ e:Nat.blt pos q.size=true)] at hp;cases hp
    refine VOK.op (VOK.same hs (v':=.tuple #[.bool false]) ?_ (LRel.tuple (l:=[.bool false]) (l':=[.bool false]) (LRel.plain rfl)));simp [Instr.next,hv,getObj,Sem.run,hw,hnp]
   | true =>
    simp only [hp,cond_true,Option.some.injEq,Prod.mk.injEq] at h;obtain ⟨rfl,rfl⟩:=h
    have hpp:pos<q.size:=by rwa [Nat.blt_eq] at hp
    obtain ⟨k1,k2,k3⟩:=setIter_sound (C:=C) (o':=.sit q (pos+(Utf8.decode q pos).2)) (it':=.stringIter q (pos+(Utf8.decode q pos).2)) hs hg rfl hi' hw (fun _ _ _ e=>by cases e) (fun w' hw'=>⟨hd,hw'⟩);refine VOK.op ⟨.tuple #[.bool true,.int .i64 pos,.int .i32 (Utf8.decode q pos).1],_,m,?_,Le.refl _,k2,k3,LRel.tuple (l:=[_,_,_]) (l':=[_,_,_]) (LRel.plain rfl)⟩;simp [Instr.next,hv,getObj,Sem.run,hw,hpp,k1,goInt]
  ·rename_i si se la hg;obtain ⟨⟨hd,r',hw,hor⟩,hBi,hlt⟩:=hs.rel b _ i hg rfl hi';simp only [hd,Nat.add_zero] at hv
   cases h
   rcases hor with ⟨_,rfl⟩ | ⟨c,j,e,_⟩
   ·refine VOK.op (VOK.same hs (v':=.tuple #[.bool false]) ?_ (LRel.tuple (l:=[.bool false]) (l':=[.bool false]) (LRel.plain rfl)));simp [Instr.next,hv,getObj,Sem.run,hw]
   ·cases e
  ·rename_i rr si se la hg;obtain ⟨⟨hd,r',hw,hor⟩,hBi,hlt⟩:=hs.rel b _ i hg rfl hi';simp only [hd,Nat.add_zero] at hv
   rcases hor with ⟨e,_⟩ | ⟨c,j,e,hj,rfl⟩
   ·cases e
   cases e
   split at h
   ·rename_i es ck hm;obtain ⟨es',h2,h3,_⟩:=map_obj hs hm hj;unfold nextMit at h
    cases hc:(!se.isEmpty && !es.isEmpty && es.all (fun e=>decide (e.born ≥ la))) with
    | true=>rw [hc] at h;cases h
    | false =>
     rw [hc] at h;simp only [cond_false] at h
     have hc':(!se.toArray.isEmpty && !es'.toArray.isEmpty && es'.toArray.all (fun e=>decide (e.born ≥ la)))=false:=by
      rw [<-hc,h3.isEmpty,h3.all_born (fun b=>decide (b ≥ la))];simp
     have hcand:(if ((es'.toArray.filter fun e=>!se.toArray.contains e.born).filter (·.born<si)).isEmpty then #[none] else #[])++(((es'.toArray.filter fun e=>!se.toArray.contains e.born).filter (·.born<si))++((es'.toArray.filter fun e=>!se.toArray.contains e.born).filter (·.born ≥ si))).map some=(candL es' si se).toArray:=by
      have hA:es'.toArray.filter (fun e=>!se.toArray.contains e.born)=(es'.filter fun e=>!se.contains e.born).toArray:=by simp
      rw [hA];dsimp only [candL];generalize (es'.filter fun e=>!se.contains e.born)=L
      have hO:L.toArray.filter (fun e=>decide (e.born<si))=(L.filter fun e=>decide (e.born<si)).toArray:=by simp
      have hN:L.toArray.filter (fun e=>decide (e.born ≥ si))=(L.filter fun e=>decide (e.born ≥ si)).toArray:=by simp
      rw [hO,hN];generalize (L.filter fun e=>decide (e.born<si))=O;generalize (L.filter fun e=>decide (e.born ≥ si))=N
      cases O <;> simp
     obtain ⟨c1,c2⟩:=cand_rel h3 si se
     have g1:(getObj i.r).run C.P w=.ok (.mapIter (some j.r) si se.toArray la) w:=by simp [getObj,Sem.run,hw]
     have g2:(getObj j.r).run C.P w=.ok (.map es'.toArray ck) w:=by simp [getObj,Sem.run,h2]
     split at h
     ·rename_i hcl
      cases h
      have hcl':=c1 hcl;refine VOK.op (VOK.same hs (v':=.tuple #[.bool false]) ?_ (LRel.tuple (l:=[.bool false]) (l':=[.bool false]) (LRel.plain rfl)));unfold Instr.next;rw [hv];simp only [Sem.run_bind,g1,g2,Result.andThen];rw [if_neg (by rw [hc'];simp),hcand,hcl'];simp [choose,Sem.run,Question.forced]
     ·rename_i e hcl
      cases h
      obtain ⟨e',hcl',he⟩:=c2 e hcl
      obtain ⟨k1,k2,k3⟩:=setIter_sound (C:=C) (o':=.mit (some rr) si (se++[e.born]) ck) (it':=.mapIter (some j.r) si (se++[e'.born]).toArray ck) hs hg rfl hi' hw (fun _ _ _ e=>by cases e)
       (fun w' hw'=>⟨hd,some j.r,by rw [hw',he.2.2.2],.inr ⟨rr,j,rfl,hj,rfl⟩⟩)
      refine VOK.op ⟨.tuple #[.bool true,e'.key,e'.val],_,m,?_,Le.refl _,k2,k3,LRel.tuple (l:=[_,_,_]) (l':=[_,_,_]) (LRel.cons (.plain _ rfl) (LRel.cons ?_ (LRel.cons he.2.2.1 (LRel.nil m))))⟩
      ·unfold Instr.next;rw [hv];simp only [Sem.run_bind,g1,g2,Result.andThen];rw [if_neg (by rw [hc'];simp),hcand,hcl'];simp [choose,Sem.run,Question.forced,k1]
      ·rw [<-he.1];exact .plain _ he.2.1
     ·cases h
   ·cases h
  ·cases h
 ·cases h
theorem find_born {es es':List MapEntry} (h:EL m es es') (st:Nat) {e:MapEntry} (hf:es.find? (fun e=>e.born==st)=some e):∃ e',es'.find? (fun e=>e.born==st)=some e'/\ERel m e e':=by
 induction es generalizing es' with
 | nil=>cases hf
 | cons x l ih =>
  cases es' with
  | nil=>exact absurd h.1 (by simp)
  | cons x' l' =>
   obtain ⟨h1,h2⟩:=h.tail;have hb:x.born=x'.born:=h1.2.2.2;rw [List.find?_cons] at hf ⊢;rw [<-hb]
   cases hx:(x.born==st) with
   | true=>rw [hx] at hf;cases hf;exact ⟨x',rfl,h1⟩
   | false=>rw [hx] at hf;exact ih h2 hf
theorem entry_sound (hs:SR B X m s w) (ht:TR m n a act) {x:Operand} {r:R} (h:opEntry x C a s=some (r,s')) :
 OpOK C B X m s' w r ((do let z <-Instr.entry (act.eval x);pure (Next.value z):Sem Next).run C.P w):=by
 unfold opEntry at h
 split at h
 ·rename_i b hx;obtain ⟨p',⟨_,i,hi,rfl⟩,hv⟩:=ptr_inv (oS ht hx);have hi':m b=some i:=hi
  split at h
  ·rename_i rr si se la hg;obtain ⟨⟨hd,r',hw,hor⟩,hBi,hlt⟩:=hs.rel b _ i hg rfl hi';simp only [hd,Nat.add_zero] at hv
   rcases hor with ⟨e,_⟩ | ⟨c,j,e,hj,rfl⟩
   ·cases e
   cases e
   split at h
   ·rename_i st es ck hse hm
    cases hc:Nat.beq ck la with
    | false=>rw [hc] at h;cases h
    | true =>
     rw [hc] at h;simp only [cond_true] at h;obtain rfl:=bE hc
     split at h
     ·rename_i e he
      cases h
      obtain ⟨es',h2,h3,_⟩:=map_obj hs hm hj;obtain ⟨e',hf',her⟩:=find_born h3 st he;refine VOK.op (VOK.same hs (v':=.tuple #[e'.key,e'.val]) ?_ (LRel.tuple (l:=[_,_]) (l':=[_,_]) (LRel.cons ?_ (LRel.cons her.2.2.1 (LRel.nil m)))))
      ·have hb:se.toArray.back?=some st:=by rw [<-hse];simp
       simp [Instr.entry,hv,getObj,Sem.run,hw,h2,hb,hf']
      ·rw [<-her.1];exact .plain _ her.2.1
     ·cases h
   ·cases h
  ·cases h
 ·cases h
theorem aop_sound (hC:CtxOK ω C) (hs:SR B X m s w) (ht:TR m n a act) (hBs:Bs ω C B w) {o:Oper} {r:R} (h:aop C o a s=some (r,s')) :
 OpOK C B X m s' w r ((execOp act.eval o).run C.P w):=by
 have hB:=hBs.le;unfold aop at h
 cases ho:o.op
 case move=>rw [ho] at h;simp only [execOp,ho];exact move_sound hs ht h
 case assign=>rw [ho] at h;simp only [execOp,ho];exact move_sound hs ht h
 case pick=>rw [ho] at h;simp only [execOp,ho];exact pick_sound hs ht h
 case alloc=>rw [ho] at h;exact doAl_sound hC hs ht hB (by rw [ho];exact h)
 case box=>rw [ho] at h;exact doAl_sound hC hs ht hB (by rw [ho];exact h)
 case build=>rw [ho] at h;simp only [execOp,ho];exact build_sound hC hs ht h
 case buildSlice=>rw [ho] at h;exact doAl_sound hC hs ht hB (by rw [ho];exact h)
 case load=>rw [ho] at h;simp only [execOp,ho];exact load_sound hC hs ht hBs h
 case store=>rw [ho] at h;simp only [execOp,ho];exact store_sound hC hs ht h
 case binOp=>rw [ho] at h;simp only [execOp,ho];exact bin_sound hC hs ht h
 case unOp=>rw [ho] at h;simp only [execOp,ho];exact unOp_sound hs ht h
 case convert src dst x =>
  rw [ho] at h
  cases hc:alConv src dst x C a with
  | some al=>exact doAl_sound hC hs ht hB (by rw [ho];show doAl s (alConv src dst x C a)=_;have h':opConvert src dst x C a s=some (r,s'):=h;unfold opConvert at h';rw [hc] at h' ⊢;exact h')
  | none=>simp only [execOp,ho];exact conv2_sound hC hs ht (by have h':opConvert src dst x C a s=some (r,s'):=h;unfold opConvert at h';rw [hc] at h';exact h')
 case makeInterface=>rw [ho] at h;simp only [execOp,ho];exact makeInterface_sound hC hs ht h
 case makeSlice=>rw [ho] at h;exact doAl_sound hC hs ht hB (by rw [ho];exact h)
 case slice=>rw [ho] at h;simp only [execOp,ho];exact slice_sound hC hs ht h
 case fieldAddr=>rw [ho] at h;simp only [execOp,ho];exact fieldAddr_sound hC hs ht h
 case field=>rw [ho] at h;simp only [execOp,ho];exact field_sound hC hs ht h
 case indexAddr=>rw [ho] at h;simp only [execOp,ho];exact indexAddr_sound hC hs ht h
 case index=>rw [ho] at h;simp only [execOp,ho];exact index_sound hC hs ht h
 case lookup=>rw [ho] at h;simp only [execOp,ho];exact lookup_sound hC hs ht h
 case mapUpdate=>rw [ho] at h;simp only [execOp,ho];exact mapUpdate_sound hC hs ht h
 case insert=>rw [ho] at h;simp only [execOp,ho];exact mapUpdate_sound hC hs ht h
 case typeAssert=>rw [ho] at h;simp only [execOp,ho];exact typeAssert_sound hC hs ht h
 case extract=>rw [ho] at h;simp only [execOp,ho];exact extract_sound hs ht h
 case call=>rw [ho] at h;simp only [execOp,ho];exact call_sound hC hs ht hBs h
 case nilCheck=>rw [ho] at h;exact nilCheck_sound hs ht o ho h
 case range=>rw [ho] at h;simp only [execOp,ho];exact range_sound hC hs ht hB h
 case next=>rw [ho] at h;simp only [execOp,ho];exact next_sound hs ht h
 case entry=>rw [ho] at h;simp only [execOp,ho];exact entry_sound hs ht h
 case makeFunc f fs cs =>
  rw [ho] at h;simp only [execOp,ho]
  cases f
  case func g=>exact makeFunc_sound hs ht h
  all_goals (cases h)
 case makeMap t r =>
  rw [ho] at h
  cases r
  case none=>exact doAl_sound hC hs ht hB (by rw [ho];exact h)
  case some=>cases h
 all_goals (rw [ho] at h;cases h)
end
end Go.Proofs.YtenfkghoolegfaaGreatDoor.Ev
namespace Go.Proofs.YtenfkghoolegfaaGreatDoor.Ev
open Go.RowKit
variable {ω:Nat->Value}
section
variable {C:Ctx} {B:Nat} {X:Aux} {m:M ω} {s s':AS} {w:World} {a a':T Value} {act:Act} {n:Nat}
def Agree (op:Op) (a a':T Value):Prop:=∀ x∈op.operands,opnd a x=opnd a' x
theorem opnds_congr {l:List Operand} (h:∀ x∈l,opnd a x=opnd a' x):opnds a l=opnds a' l:=by
 induction l with
 | nil=>rfl
 | cons x l ih=>simp only [opnds];rw [h x (by simp),ih (fun y hy=>h y (by simp [hy]))]
theorem parts_congr {l:List (Nat × Operand)} (h:∀ x∈l.map (·.2),opnd a x=opnd a' x):parts a l=parts a' l:=by
 induction l with
 | nil=>rfl
 | cons x l ih=>obtain ⟨i,x⟩:=x;simp only [parts];rw [h x (by simp),ih (fun y hy=>h y (by simp only [List.map_cons,List.mem_cons];exact .inr hy))]
theorem bnd_congr {x:Option Operand} (h:∀ y∈x,opnd a y=opnd a' y):bnd a x=bnd a' x:=by
 cases x with
 | none=>rfl
 | some x=>simp only [bnd];rw [h x rfl]
theorem al_congr {op:Op} (h:Agree op a a'):alOf op C a=alOf op C a':=by
 cases op <;> unfold Agree at h <;> simp only [Op.operands] at h <;> unfold alOf <;> try rfl
 case box t x=>simp only [alBox];rw [h x (by simp)]
 case buildSlice t k ps=>simp only [alBuildSlice];rw [parts_congr (a':=a') (fun x hx=>h x (by simpa using hx))]
 case convert s d x=>simp only [alConv];rw [h x (by simp)]
 case makeMap t r=>cases r <;> rfl
 case makeSlice t l c=>simp only [alMakeSlice];rw [h l (by simp),h c (by simp)]
theorem aop_congr {op:Op} (h:Agree op a a'):aopK op C a s=aopK op C a' s:=by
 have hal:=al_congr (C:=C) h
 cases op <;> unfold Agree at h <;> simp only [Op.operands] at h <;> unfold aopK <;> try rfl
 case move x=>simp only [opMove];rw [h x (by simp)]
 case assign x=>simp only [opMove];rw [h x (by simp)]
 case pick c x y=>simp only [opPick];rw [h c (by simp),h x (by simp),h y (by simp)]
 case box t x=>exact congrArg (doAl s) hal
 case build t ps=>simp only [opBuild];rw [parts_congr (a':=a') (fun x hx=>h x (by simpa using hx))]
 case buildSlice t k ps=>exact congrArg (doAl s) hal
 case insert t x k v=>simp only [opMapUpdate];rw [h x (by simp),h k (by simp),h v (by simp)]
 case load t x=>cases x <;> simp only [opLoad,isGlob,loadX] <;> first | rfl | (rw [h _ (by simp)])
 case store t x y=>simp only [opStore];rw [h x (by simp),h y (by simp)]
 case nilCheck x=>simp only [opNilCheck];rw [h x (by simp)]
 case binOp op t x y z=>simp only [opBinOp];rw [h x (by simp),h y (by simp)]
 case unOp op t x=>simp only [opUnOp];rw [h x (by simp)]
 case convert sr d x =>
  have e:alConv sr d x C a=alConv sr d x C a':=hal
  simp only [opConvert];rw [e];cases alConv sr d x C a' with
  | some al=>rfl
  | none=>simp only [opConv2];rw [h x (by simp)]
 case makeInterface t x=>simp only [opMakeInterface];rw [h x (by simp)]
 case makeFunc f fs cs =>
  cases f <;> try rfl
  simp only [opMakeFunc];rw [opnds_congr (a':=a') (l:=fs.toList) (fun x hx=>h x (by simp at hx ⊢;exact .inl hx)),opnds_congr (a':=a') (l:=cs.toList) (fun x hx=>h x (by simp at hx ⊢;exact .inr hx))]
 case makeMap t r=>cases r <;> rfl
 case makeSlice t l c=>exact congrArg (doAl s) hal
 case slice t x lo hi mx =>
  simp only [opSlice];rw [h x (by simp),bnd_congr (a':=a') (x:=lo) (fun y hy=>h y (by cases lo <;> simp_all)),bnd_congr (a':=a') (x:=hi) (fun y hy=>h y (by cases hi <;> simp_all)),bnd_congr (a':=a') (x:=mx) (fun y hy=>h y (by cases mx <;> simp_all))]
 case fieldAddr t x f=>simp only [opFieldAddr];rw [h x (by simp)]
 case field t x f=>simp only [opField];rw [h x (by simp)]
 case indexAddr t x i=>simp only [opIndexAddr];rw [h x (by simp),h i (by simp)]
 case index t x i=>simp only [opIndex];rw [h x (by simp),h i (by simp)]
 case lookup t x k ok=>simp only [opLookup];rw [h x (by simp),h k (by simp)]
 case mapUpdate t x k v=>simp only [opMapUpdate];rw [h x (by simp),h k (by simp),h v (by simp)]
 case range t x=>simp only [opRange];rw [h x (by simp)]
 case next x q=>simp only [opNext];rw [h x (by simp)]
 case entry x=>simp only [opEntry];rw [h x (by simp)]
 case typeAssert x xt t ok=>simp only [opTypeAssert];rw [h x (by simp)]
 case extract x i=>simp only [opExtract];rw [h x (by simp)]
 case call c =>
  simp only [opCall];rw [opnds_congr (a':=a') (l:=c.args.toList) (fun x hx=>h x (by simp [Call.operands];exact .inr (by simpa using hx)))]
  cases hc:c.callee with
  | builtin b=>cases opnds a' c.args.toList <;> rfl
  | value f =>
   have e:=h f (by simp [Call.operands,hc])
   cases opnds a' c.args.toList with
   | none=>rfl
   | some vs=>dsimp only;rw [e]
  | invoke r nm =>
   have e:=h r (by simp [Call.operands,hc])
   cases opnds a' c.args.toList with
   | none=>rfl
   | some vs=>dsimp only;rw [e]
theorem aop_agree {o:Oper} (h:Agree o.op a a'):aop C o a s=aop C o a' s:=aop_congr h
theorem failA_still {t:TypeId} {ok:Bool} {r:R} (he:failA C t ok s=some (r,s')):s'=s/\∃ v,r=.val v:=by
 simp only [failA,cond_eq_ite] at he
 (repeat' split at he) <;> cases he
 exact ⟨rfl,_,rfl⟩
theorem still_same {o:Oper} (h:stillB C o.op=true) (hal:alOf o.op C a=none) {r:R} (he:aop C o a s=some (r,s')):s'=s/\∃ v,r=.val v:=by
 have mv:∀ {x:Operand},opMove x C a s=some (r,s')->s'=s/\∃ v,r=.val v:=by
  intro x he;unfold opMove at he
  cases hx:opnd a x with
  | none=>rw [hx] at he;cases he
  | some v=>rw [hx] at he;cases he;exact ⟨rfl,_,rfl⟩
 unfold aop at he
 cases ho:o.op <;> rw [ho] at h he hal <;> first | (cases h;done) | skip
 case move x=>exact mv he
 case assign x=>exact mv he
 case makeFunc f fs cs =>
  cases f <;> first | (cases he;done) | skip
  have he':opMakeFunc _ fs cs C a s=some (r,s'):=he;simp only [opMakeFunc] at he'
  (repeat' split at he') <;> cases he'
  exact ⟨rfl,_,rfl⟩
 case typeAssert x xt t ok =>
  have he':opTypeAssert x t ok C a s=some (r,s'):=he;simp only [opTypeAssert,cond_eq_ite] at he'
  (repeat' split at he') <;> first | (cases he';done) | (cases he';exact ⟨rfl,_,rfl⟩) | exact failA_still he'
 case convert sr d x =>
  have he':opConvert sr d x C a s=some (r,s'):=he;have hn:alConv sr d x C a=none:=hal;unfold opConvert at he';rw [hn] at he';simp only [opConv2] at he'
  split at he'
  ·split at he'
   ·rename_i v r' s2 hc
    cases he'
    refine ⟨?_,_,rfl⟩;unfold convV at hc;rename_i z hz0
    cases hch:isChan z with
    | true =>
     rw [hch] at hc;simp only [cond_true,convTok] at hc
     split at hc <;> cases hc
     rfl
    | false =>
    rw [hch] at hc;simp only [cond_false] at hc
    split at hc
    ·split at hc
     ·simp only [convInt] at hc
      (repeat' split at hc) <;> cases hc <;> rfl
     ·simp only [convStr,cond_eq_ite] at hc
      (repeat' split at hc) <;> cases hc <;> rfl
     ·simp only [convSl,cond_eq_ite] at hc
      (repeat' split at hc) <;> cases hc <;> rfl
     ·cases hc
    ·cases hc
   ·cases he'
  ·cases he'
 case call c =>
  have hb:stillC c.callee=true:=h;have he':opCall c C a s=some (r,s'):=he;unfold opCall at he'
  split at he'
  ·rename_i b vs hc hv;rw [hc] at hb;have hb':stillBi b=true:=hb
   cases b <;> first | (cases hb';done) | skip
   all_goals
    unfold builtinV builtinK at he';simp only [biLen,lenTok,biCap,biMinmax,cond_eq_ite] at he'
    (repeat' split at he') <;> first | (cases he';done) | (cases he';exact ⟨rfl,_,rfl⟩)
  ·rename_i hc _;rw [hc] at hb;cases hb
  ·rename_i hc _;rw [hc] at hb;cases hb
  ·cases he'
 all_goals
  simp only [aopK,opPick,opBuild,opLoad,loadG,loadX,opNilCheck,opBinOp,opUnOp,opMakeInterface,opSlice,opFieldAddr,opField,opIndexAddr,opIndex,opLookup,opExtract,cond_eq_ite] at he
  (repeat' split at he) <;> first | (cases he;done) | (cases he;exact ⟨rfl,_,rfl⟩)
theorem eqL_sound {f:Value->Value->Bool} (hf:∀ x y,f x y=true->x=y):∀ {l k:List Value},eqL f l k=true->l=k
 | [],[],_=>rfl
 | [],_::_,h=>by cases h
 | _::_,[],h=>by cases h
 | x::l,y::k,h=>by
  simp only [eqL] at h
  cases hx:f x y with
  | false=>rw [hx] at h;cases h
  | true=>rw [hx] at h;rw [hf x y hx,eqL_sound hf h]
theorem eqBy_sound:∀ {l k:List UInt8},eqBy l k=true->l=k
 | [],[],_=>rfl
 | [],_::_,h=>by cases h
 | _::_,[],h=>by cases h
 | x::l,y::k,h=>by
  simp only [eqBy] at h
  cases hx:Nat.beq x.toNat y.toNat with
  | false=>rw [hx] at h;cases h
  | true=>rw [hx] at h;rw [eqBy_sound h,UInt8.toNat_inj.1 (bE hx)]
theorem eqA_sound {p q:Addr} (h:eqA p q=true):p=q:=by
 obtain ⟨b,o,sp⟩:=p;obtain ⟨c,d,sq⟩:=q;unfold eqA at h
 split at h
 ·rename_i h1 h2;simp only at h1 h2;subst h1;subst h2;rw [Bool.and_eq_true] at h;have e1:=bE h.1;have e2:=bE h.2;simp only at e1 e2;rw [e1,e2]
 ·cases h
theorem eqI_sound {p q:Int} (h:eqI p q=true):p=q:=by
 cases p <;> cases q <;> simp only [eqI] at h <;> first | (rw [bE h];done) | (cases h;done)
theorem veq_sound:∀ (k:Nat) (x y:Value),veq k x y=true->x=y
 | 0,_,_,h=>by cases h
 | k+1,x,y,h=>by
  have ih:=veq_sound k;unfold veq at h
  split at h
  ·rename_i p q;cases p <;> cases q <;> first | rfl | (cases h;done)
  ·rw [Bool.and_eq_true] at h;rw [of_decide_eq_true h.1,eqI_sound h.2]
  ·rename_i p q;have e:=eqBy_sound h;congr 1
   cases p;cases q
   simp only at e;congr 1;exact Array.toList_inj.1 e
  ·rfl
  ·rfl
  ·rw [bE h]
  ·rfl
  ·rfl
  ·rw [eqA_sound h]
  ·rw [Bool.and_eq_true] at h;rw [bE h.1,bE h.2]
  ·rw [Bool.and_eq_true,Bool.and_eq_true] at h;rw [eqA_sound h.1,bE h.2.1,bE h.2.2]
  ·rfl
  ·rw [bE h]
  ·rw [Bool.and_eq_true] at h;rw [bE h.1,ih _ _ h.2]
  ·rw [Array.toList_inj.1 (eqL_sound ih h)]
  ·rw [Array.toList_inj.1 (eqL_sound ih h)]
  ·rw [Bool.and_eq_true,Bool.and_eq_true] at h;rw [bE h.1,Array.toList_inj.1 (eqL_sound ih h.2.1),Array.toList_inj.1 (eqL_sound ih h.2.2)]
  ·cases h
theorem dstIs_sound {d:Option Tmp} {v:Value} (h:dstIs a d v=true) {t:Tmp} (ht:d=some t):a.get t=some v:=by
 subst ht;simp only [dstIs] at h
 split at h
 ·rename_i u hu;rw [hu,veq_sound _ _ _ h]
 ·cases h
theorem bitB_eq (D i:Nat):bitB D i=D.testBit i:=by
 unfold bitB Nat.testBit;show Nat.beq ((D >>> i) &&& 1) 1=(1 &&& (D >>> i) != 0);rw [Nat.and_comm,Nat.one_and_eq_mod_two]
 rcases Nat.mod_two_eq_zero_or_one (D >>> i) with h | h <;> rw [h] <;> rfl
theorem setB_bit (D i j:Nat):bitB (setB D i) j=(decide (j=i) || bitB D j):=by
 rw [bitB_eq,bitB_eq];unfold setB;show (D ||| (1 <<< i)).testBit j=_;rw [Nat.testBit_or,Nat.one_shiftLeft,Nat.testBit_two_pow,Bool.or_comm];congr 1;exact decide_eq_decide.2 eq_comm
theorem setB_same (D i:Nat):bitB (setB D i) i=true:=by rw [setB_bit];simp
theorem setB_old {D i j:Nat} (h:bitB D j=true):bitB (setB D i) j=true:=by rw [setB_bit,h];simp
theorem setB_inv {D i j:Nat} (h:bitB (setB D i) j=true):j=i\/bitB D j=true:=by
 rw [setB_bit,Bool.or_eq_true] at h;exact h.imp (fun e=>of_decide_eq_true e) id
theorem bitB_zero (i:Nat):bitB 0 i=false:=by rw [bitB_eq];simp
theorem predsIn_iff {D:Nat} {es:List Edge}:predsIn D es=true↔∀ e∈es,Region.binds .any e=true->bitB D e.on=true:=by
 induction es with
 | nil=>simp [predsIn]
 | cons e es ih =>
  simp only [predsIn,List.forall_mem_cons,<-ih]
  cases Region.binds .any e <;> cases bitB D e.on <;> simp
theorem ahead_iff {i:Nat} {es:List Edge}:ahead i es=true↔∀ e∈es,Region.binds .any e=true->e.on<i:=by
 induction es with
 | nil=>simp [ahead]
 | cons e es ih =>
  simp only [ahead,List.forall_mem_cons,<-ih]
  have hb:(Nat.blt e.on i=true)↔e.on<i:=by rw [Nat.blt_eq]
  cases Region.binds .any e <;> cases hc:Nat.blt e.on i <;> simp <;> rw [hc] at hb <;> simp at hb <;> first | omega | (intros;omega)
end
end Go.Proofs.YtenfkghoolegfaaGreatDoor.Ev
