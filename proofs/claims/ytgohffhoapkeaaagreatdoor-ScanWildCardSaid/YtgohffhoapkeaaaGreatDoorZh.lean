/- A part of the proof of ScanWild. No condition of its own. -/
import Derived.Test.YtgohffhoapkeaaaGreatDoorVz
import Derived.Test.YtgohffhoapkeaaaGreatDoorZg
import Derived.RangeFuncRecord
import Derived.OrdersIn
import Derived.Laws.Sem
set_option linter.unusedVariables false
namespace Go.Proofs.YtgohffhoapkeaaaGreatDoor.Ev
open Go.RowKit
variable {ω:Nat->Value}
section
variable {C:Ctx} {B:Nat} {X:cK} {m:M ω} {s s':AS} {w:World} {a:T Value} {act:Act} {n:Nat}
theorem ue (hs:SR B X m s w) {P:Program} {p p':Addr} {q c c' size:Nat} {y y':Value} (hx:VRel m (.slice (some p) q c) (.slice (some p') q c')) (hy:VRel m y y') {r:R} (h:xS s p q size y=some (r,s')) :
 ∃ v k w' cells,r=.val v/\v=.int .i64 (Nat.min k q:Nat)/\(Builtin.lenOf y').run P w=.ok k w/\(Builtin.firstCells size (Nat.min k q) y').run P w=.ok cells w/\(storeCells p' cells.toList).run P w=.ok () w'/\SR B X m s' w'/\Below B w w':=by
 have store:∀ {l l':List Value} {s2:AS},LRel m l l'->(q=0->l=[])->eY s p l=some s2->∃ w',(storeCells p' l').run P w=.ok () w'/\SR B X m s2 w'/\Below B w w':=by
  intro l l' s2 hl h0 hw;obtain ⟨p2,c2,e,hor⟩:=aU hx
  cases e
  rcases hor with ⟨hp,_,_⟩ | ⟨rfl,_,_⟩
  ·exact dR hs hw hp hl
  ·have:=h0 rfl;subst this;have:l'=[]:=List.length_eq_zero_iff.1 (by rw [<-hl.1];rfl);subst this;exact ⟨w,by simp [storeCells],jn hs (eq hx) hw,bR _ _⟩
 unfold xS at h
 split at h
 ·cases h
  obtain rfl:=bM hy;exact ⟨_,0,w,#[],rfl,by simp,rfl,rfl,by simp [storeCells],hs,bR _ _⟩
 ·rename_i b k cc
  split at h
  ·rename_i l hl
   split at h
   ·rename_i s2 hw
    cases h
    obtain ⟨b',c2,rfl,hor⟩:=aU hy
    obtain ⟨l',h1,h2,h3⟩:∃ l',LRel m l l'/\l'.length=Nat.min k q*size/\∀ j v,l'[j]?=some v->w.cell? (b'.add j)=some v:=by
     rcases hor with ⟨hp,_,_⟩ | ⟨rfl,_,_⟩
     ·exact aL hs hl hp
     ·rw [show Nat.min 0 q=0 from Nat.zero_min q,Nat.zero_mul] at hl;obtain rfl:=ey hl;exact ⟨[],LRel.nil m,by simp,fun j v h=>by simp at h⟩
    obtain ⟨w',g1,g2,g3⟩:=store h1 (fun e=>by
     subst e;rw [show Nat.min k 0=0 from Nat.min_zero k,Nat.zero_mul] at hl
     exact ey hl) hw
    exact ⟨_,k,w',l'.toArray,rfl,rfl,rfl,run_firstCells_some w size (Nat.min k q) b' k c2 l' h2 h3,by simpa using g1,g2,g3⟩
   ·cases h
  ·cases h
 ·rename_i b
  split at h
  ·rename_i s2 hw
   cases h
   obtain rfl:=fo hy;obtain ⟨w',g1,g2,g3⟩:=store (LRel.plain (List.all_eq_true.2 fun v hv=>by obtain ⟨_,_,rfl⟩:=List.mem_map.1 hv;rfl)) (fun e=>by subst e;simp) hw;refine ⟨_,b.size,w',_,rfl,rfl,rfl,rfl,?_,g2,g3⟩
   have:((b.extract 0 (Nat.min b.size q)).data.map fun x=>Value.int .u8 x.toNat).toList=(b.data.toList.take (Nat.min b.size q)).map fun x=>Value.int .u8 x.toNat:=by
    rw [Array.toList_map];congr 1;simp [ByteArray.data_extract,List.extract_eq_take_drop]
   simp only [this];exact g1
  ·cases h
 ·cases h
theorem yi (hC:aM ω C) (hs:SR B X m s w) {ts:List TypeId} {vs:List Value} {args:Array Value} (hl:LRel m vs args.toList) {ty:TypeId} {r:R} (h:xU C ts vs s=some (r,s')) :
 bD C B X m s' w r ((do let z <-Builtin.copy_ ts.toArray ty args;pure (Next.value z):Sem Next).run C.P w):=by
 unfold xU at h
 split at h
 ·rename_i t t2 x y;obtain ⟨x',y',rfl,hx,hy⟩:=ss hl
  split at h
  ·rename_i e hu;have hun:=hC.un _ _ hu
   split at h
   ·rename_i size hsz;obtain ⟨ti,hti,rfl⟩:=aE hC hsz
    split at h
    ·obtain rfl:=bM hx;unfold zm at h
     split at h
     ·rename_i p k c
      cases h
      have:∃ p' c',y'=.slice p' k c':=by
       cases hy with
       | plain v h=>exact ⟨_,_,rfl⟩
       | slice a a' n c c'=>exact ⟨_,_,rfl⟩
       | slice0 a a' h0=>exact ⟨_,_,rfl⟩
      obtain ⟨p',c',rfl⟩:=this;refine bc.op (bc.same hs (v':=.int .i64 0) ?_ (.plain _ rfl))
      cases p' <;> simp [Builtin.copy_,run_underlying hun,Builtin.lenOf,sizeOf,typeInfo,hti,Builtin.firstCells,loadCells,loadCellsFrom,goInt]
     ·rename_i b
      cases h
      obtain rfl:=fo hy;exact bc.op (bc.same hs (v':=.int .i64 0) (by simp [Builtin.copy_,run_underlying hun,Builtin.lenOf,sizeOf,typeInfo,hti,Builtin.firstCells,goInt]) (.plain _ rfl))
     ·cases h
    ·rename_i p q c;obtain ⟨p',c',e,_⟩:=aU hx;subst e;obtain ⟨v,k,w',cells,rfl,rfl,g1,g2,g3,g4,g5⟩:=ue (P:=C.P) hs hx hy h;refine bc.op ⟨.int .i64 (Nat.min k q:Nat),w',m,?_,Le.refl _,g4,g5,.plain _ rfl⟩;simp [Builtin.copy_,run_underlying hun,g1,sizeOf,typeInfo,hti,g2,g3,goInt]
    ·cases h
   ·cases h
  ·cases h
 ·cases h
theorem yj {l l':List Value} (h:LRel m l l') (hp:l.all am=true):l'=l:=by
 apply List.ext_getElem?;intro i;by_cases hi:i<l.length
 ·obtain ⟨v',h1,h2⟩:=h.at_ (gE hi);rw [h1,gE hi,aK h2 (List.all_eq_true.1 hp _ (List.getElem_mem hi))]
 ·rw [List.getElem?_eq_none (by rw [<-h.1];omega),List.getElem?_eq_none (by omega)]
theorem mb (hs:SR B X m s w) {b:Builtin} (hb:b=.min\/b=.max) {ts:List TypeId} {vs:List Value} {args:Array Value} (hl:LRel m vs args.toList) {ty:TypeId} {cs:Array Bool} {r:R} (h:jg b C ts vs s=some (r,s')) :
 bD C B X m s' w r ((builtin b ts.toArray ty cs args).run C.P w):=by
 unfold jg at h
 cases hp:vs.all am with
 | false=>simp [hp] at h
 | true =>
  simp only [hp,cond_true] at h
  split at h
  ·rename_i v hv
   cases hpv:am v with
   | false=>simp [hpv] at h
   | true =>
    simp only [hpv,cond_true,Option.some.injEq,Prod.mk.injEq] at h;obtain ⟨rfl,rfl⟩:=h;have e1:=yj hl hp
    have e2:args=vs.toArray:=by rw [<-e1]
    subst e2;have hr:=jk _ _ hv w;refine ⟨.value v,w,m,?_,Le.refl _,hs,bR _ _,.plain v hpv⟩;rw [<-hr]
    rcases hb with rfl | rfl <;> rfl
  ·cases h
theorem vW (hC:aM ω C) (hs:SR B X m s w) {ts:List TypeId} {vs:List Value} {args:Array Value} (hl:LRel m vs args.toList) {ty:TypeId} {r:R} (h:tN C ts vs s=some (r,s')) :
 bD C B X m s' w r ((do let z <-Builtin.clear_ ts.toArray ty args;pure (Next.value z):Sem Next).run C.P w):=by
 have hu0:VRel m (.tuple #[]) (.tuple #[]):=by
  first
   | exact .plain _ rfl
   | exact LRel.tuple (l:=[]) (l':=[]) (LRel.nil m)
 unfold tN at h
 split at h
 ·rename_i t a n c;obtain ⟨x',rfl,hx⟩:=gY hl
  split at h
  ·rename_i e hu;have hun:=hC.un _ _ hu
   split at h
   ·rename_i z hz;obtain ⟨p',c',rfl,hor⟩:=aU hx
    cases hn:Nat.beq n 0 with
    | true =>
     rw [hn] at h;obtain rfl:=bE hn
     cases h
     exact bc.op (bc.same hs (v':=.tuple #[]) (by simp [Builtin.clear_,run_underlying hun]) hu0)
    | false =>
     rw [hn] at h;simp only [cond_false] at h
     split at h
     ·rename_i s2 hw
      cases h
      obtain ⟨k,rfl⟩:∃ k,n=k+1:=⟨n-1,by have:=Nat.ne_of_beq_eq_false hn;omega⟩
      rcases hor with ⟨hp,_,_⟩ | ⟨h0,_,_⟩
      ·obtain ⟨i,v,hi,hzv,rfl,hpl,hlen⟩:=cD hC hz;obtain ⟨w',g1,g2,g3⟩:=dR (P:=C.P) hs hw hp (LRel.plain (ga _ hpl (k+1)));refine bc.op ⟨.tuple #[],w',m,?_,Le.refl _,g2,g3,hu0⟩
       have hzc:(Builtin.zeroCells v.cells (k+1)).toList=df (k+1) (cellsOf v):=by
        have:=l8 v.cells (k+1);unfold Builtin.zeroCells;rw [this,fX]
       simp [Builtin.clear_,run_underlying hun,zeroValue,typeInfo,hi,hzv,hzc,g1]
      ·cases h0
     ·cases h
   ·cases h
  ·cases h
 ·rename_i t;obtain ⟨x',rfl,hx⟩:=gY hl
  split at h
  ·rename_i e hu;have hun:=hC.un _ _ hu
   cases h
   obtain rfl:=bM hx;exact bc.op (bc.same hs (v':=.tuple #[]) (by simp [Builtin.clear_,run_underlying hun]) hu0)
  ·cases h
 ·cases h
theorem rm (hC:aM ω C) (hs:SR B X m s w) (hB:Bs ω C B w) {b:Builtin} {ts:List TypeId} {vs:List Value} {args:Array Value} (hl:LRel m vs args.toList) {ty:TypeId} {cs:Array Bool} {r:R} (h:lR C b ts vs s=some (r,s')) :
 bD C B X m s' w r ((builtin b ts.toArray ty cs args).run C.P w):=by
 unfold lR pQ at h
 split at h
 ·exact ud hC hs hB hl h
 ·exact Bj hC hs hl h
 ·exact Bm hC hs hl h
 ·exact yi hC hs hl h
 ·exact tZ hC hs hl h
 ·exact vW hC hs hl h
 ·exact mb hs (.inl rfl) hl h
 ·exact mb hs (.inr rfl) hl h
 ·cases h
theorem vX {g:FuncId} {fs cs:Array Value} {v:Value} (h:VRel m (.func (.func g) fs cs) v):∃ fs' cs',v=.func (.func g) fs' cs'/\LRel m fs.toList fs'.toList/\LRel m cs.toList cs'.toList:=by
 cases h with
 | plain v h=>simp [am] at h
 | func f fs fs' cs cs' h1 h2 h3 h4=>exact ⟨fs',cs',rfl,LRel.of_arr h1 h3,LRel.of_arr h2 h4⟩
theorem Bn {l:Nat} {fs cs:Array Value} {v:Value} (h:VRel m (.func (.yield l) fs cs) v):∃ i,m l=some i/\v=.func (.yield i.r) #[] #[]:=by
 cases h with
 | plain v h=>simp [am] at h
 | yield b i h=>exact ⟨i,h,rfl⟩
theorem Dh {α:Type} (xs:Array α) (p:α->Bool):xs.find? p=xs.toList.find? p:=by simp
theorem yk (hC:aM ω C) (hs:SR B X m s w) (ht:TR m n a act) (hB:Bs ω C B w) {c:Call} {ty:TypeId} {r:R} (h:kU c C a s=some (r,s')) :
 bD C B X m s' w r ((do let d <-resolve act.eval c ty;invoke d.target d.args:Sem Next).run C.P w):=by
 unfold kU at h
 split at h
 ·rename_i b vs hc hv;have hl:=dN ht hv
  have hl':LRel m vs (c.args.map act.eval).toList:=by simpa using hl
  simp only [resolve,hc,Sem.run_bind];exact rm hC hs hB hl' h
 ·rename_i f vs hc hv;have hl:=dN ht hv
  have hl':LRel m vs (c.args.map act.eval).toList:=by simpa using hl
  split at h
  ·rename_i g fs cs hf
   cases h
   obtain ⟨fs',cs',e,h1,h2⟩:=vX (oS ht hf);refine ⟨fs'++c.args.map act.eval++cs',by simpa using (h1.append hl).append h2,?_,hs⟩;simp [resolve,hc,e,Deferred.ofValue,invoke]
  ·rename_i l fs cs hf
   cases h
   obtain ⟨i,h1,e⟩:=Bn (oS ht hf);refine ⟨i,c.args.map act.eval,h1,hl',?_,hs⟩;simp [resolve,hc,e,Deferred.ofValue,invoke]
  ·cases h
 ·rename_i rc name vs hc hv;have hl:=dN ht hv
  split at h
  ·rename_i t v hr;obtain ⟨v',hv',e⟩:=bQ (oS ht hr)
   have hx:((#[Value.iface t v']++c.args.map act.eval).extract 1 (#[Value.iface t v']++c.args.map act.eval).size)=c.args.map act.eval:=by
    apply Array.ext';simp [List.extract_eq_take_drop];rw [List.take_of_length_le (by simp)]
   have h0:(#[Value.iface t v']++c.args.map act.eval)[0]?=some (.iface t v'):=by rw [Array.getElem?_append_left (by simp)];rfl
   have go:∀ (g:FuncId) (rv:Value),(method (C.P.types.size+Made.depth) t v' name).run C.P w=.ok (g,rv) w ->
    (do let d <-resolve act.eval c ty;invoke d.target d.args:Sem Next).run C.P w=(callFunc g (#[rv]++c.args.map act.eval)).run C.P w:=by
    intro g rv hmeth;simp only [resolve,hc,e,Sem.run_bind,Sem.run_pure,Result.andThen,invoke];simp only [h0,hx,callMethod,Sem.run_bind,run_program,Result.andThen];rw [hmeth]
   unfold zq at h
   split at h
   ·rename_i g rv hm0
    cases h
    obtain ⟨rv',hrv,hrun⟩:=hC.meth t name v g rv hm0 m v' hv';exact ⟨_,by simpa using LRel.cons hrv hl,go g rv' (hrun w),hs⟩
   unfold zp at h
   split at h
   ·rename_i ti hti;have hti':=hC.ty _ _ hti
    split at h
    ·rename_i mt hm
     have hm':ti.methods.find? (fun x=>x.name==name)=some mt:=by rw [Dh];exact hm
     have mk:∀ (g:FuncId) (b:Bool),mt.path.toList=[]->mt.func=some (g,b)->(∀ o,(receiverAt t (.val v') b o).run C.P w=.ok v' w) ->
      (do let d <-resolve act.eval c ty;invoke d.target d.args:Sem Next).run C.P w=(callFunc g (#[v']++c.args.map act.eval)).run C.P w:=by
      intro g b hp hg hrec
      have hmeth:∀ q,(method (q+1) t v' name).run C.P w=.ok (g,v') w:=by
       intro q;simp [method,typeInfo,hti',hm',hp,follow,hg,hrec]
      have hd:C.P.types.size+Made.depth=(C.P.types.size+99)+1:=rfl;exact go g v' (by rw [hd,hmeth])
     have hargs:LRel m (v::vs) (#[v']++c.args.map act.eval).toList:=by simpa using LRel.cons hv' hl
     split at h
     ·rename_i g e2 hp hg hu
      cases h
      have hun:=hC.un _ _ hu;exact ⟨_,hargs,mk g true hp hg (fun o=>by simp [receiverAt,run_underlying hun,Place.get]),hs⟩
     ·rename_i g d hp hg hu;have hun:=hC.un _ _ hu
      cases hd:xW d with
      | true=>simp [hd] at h
      | false =>
       simp only [hd,cond_false,Option.some.injEq,Prod.mk.injEq] at h;obtain ⟨rfl,rfl⟩:=h;refine ⟨_,hargs,mk g false hp hg (fun o=>?_),hs⟩
       cases d <;> first | (simp [xW] at hd;done) | simp [receiverAt,run_underlying hun,Place.get]
     ·cases h
    ·cases h
   ·cases h
  ·cases h
 ·cases h
theorem Di (hC:aM ω C) (ht:TR m n a act) (hB:B<=w.heap.size) {o:Oper} {q:AObj} {f:Nat->Value} (h:ki o.op C a=some (q,f)):jj B m w q f ((execOp act.eval o).run C.P w):=by
 cases ho:o.op
 case alloc=>rw [ho] at h;simp only [execOp,ho];exact Bb (a:=a) hC hB h
 case box=>rw [ho] at h;simp only [execOp,ho];exact ER (C:=C) ht hB h
 case buildSlice=>rw [ho] at h;simp only [execOp,ho];exact qc hC ht hB h
 case makeSlice=>rw [ho] at h;simp only [execOp,ho];exact rj hC ht hB h
 case convert=>rw [ho] at h;simp only [execOp,ho];exact De hC ht hB h
 case makeMap t r =>
  rw [ho] at h;simp only [execOp,ho]
  cases r
  case none=>exact vN (a:=a) hB h
  case some=>cases h
 all_goals (rw [ho] at h;cases h)
theorem ez (hC:aM ω C) (hs:SR B X m s w) (ht:TR m n a act) (hB:B<=w.heap.size) {o:Oper} {r:R} (h:mX s (ki o.op C a)=some (r,s')) :
 bD C B X m s' w r ((execOp act.eval o).run C.P w):=by
 cases h1:ki o.op C a with
 | none=>rw [h1] at h;cases h
 | some al =>
  obtain ⟨q,f⟩:=al;rw [h1] at h
  cases h
  exact jj.op hs hB (Di hC ht hB h1)
theorem vY (hC:aM ω C) (hs:SR B X m s w) (ht:TR m n a act) (hB:B<=w.heap.size) {t:TypeId} {x:Operand} {r:R} (h:lX t x C a s=some (r,s')) :
 bD C B X m s' w r ((do let z <-Instr.range t (act.eval x);pure (Next.value z):Sem Next).run C.P w):=by
 unfold lX at h
 have fin:∀ (o:AObj) (it:Obj) (i:eP),i=⟨w.heap.size,0,0,0,false,0⟩->mX s (some (o,xV))=some (r,s')->gD m (w.alloc it) i o->(do let z <-Instr.range t (act.eval x);pure (Next.value z):Sem Next).run C.P w=.ok (.value (.pointer (some ⟨w.heap.size,0,none⟩))) (w.alloc it) ->
  bD C B X m s' w r ((do let z <-Instr.range t (act.eval x);pure (Next.value z):Sem Next).run C.P w):=by
  rintro o it i rfl h ho hr
  cases h
  exact jj.op hs hB ⟨_,_,_,hr,rfl,by simp,fun k hk=>Below.heap_alloc w _ k hk,(bR _ _).alloc hB _,ho,fun m' b hb=>tU rfl m' b hb⟩
 split at h
 ·rename_i kt et hu hx;have hun:=hC.un _ _ hu;have hv:=kW (oS ht hx);exact fin _ (.mapIter none 0 #[] 0) _ rfl h ⟨rfl,none,by simpa using heap_alloc_new w _,.inl ⟨rfl,rfl⟩⟩ (by simp [Instr.range,run_underlying hun,hv])
 ·rename_i kt et b hu hx;have hun:=hC.un _ _ hu;obtain ⟨i,hi,hv⟩:=l6 (oS ht hx)
  split at h
  ·rename_i es ck hb;obtain ⟨es',h2,h3,_⟩:=iG hs hb hi;exact fin _ (.mapIter (some i.r) ck #[] ck) _ rfl h ⟨rfl,some i.r,by simpa using heap_alloc_new w _,.inr ⟨b,i,rfl,hi,rfl⟩⟩ (by simp [Instr.range,run_underlying hun,hv,cH h2])
  ·cases h
 ·rename_i q hu hx;have hun:=hC.un _ _ hu;have hv:=fo (oS ht hx);exact fin _ (.stringIter q 0) _ rfl h ⟨rfl,by simpa using heap_alloc_new w _⟩ (by simp [Instr.range,run_underlying hun,hv])
 ·cases h
theorem Dj {es es':List MapEntry} (h:EL m es es') (since:Nat) (seen:List Nat) :
 ((pU es since seen=[none])->pU es' since seen=[none])/\(∀ e,pU es since seen=[some e]->∃ e',pU es' since seen=[some e']/\xK m e e'):=by
 have filt:∀ (p:Nat->Bool) {l l':List MapEntry},EL m l l'->EL m (l.filter fun e=>p e.born) (l'.filter fun e=>p e.born):=by
  intro p l
  induction l with
  | nil=>intro l' h;cases l' with | nil=>exact h | cons e l'=>exact absurd h.1 (by simp)
  | cons e l ih =>
   intro l' h
   cases l' with
   | nil=>exact absurd h.1 (by simp)
   | cons e' l' =>
    obtain ⟨h1,h2⟩:=h.tail;have hb:e.born=e'.born:=h1.2.2.2;have h3:=ih h2;rw [List.filter_cons,List.filter_cons,hb]
    cases p e'.born with
    | false=>simpa using h3
    | true =>
     simp only [if_true];refine ⟨by simp [h3.1],fun k x x' hx hx'=>?_⟩
     cases k with
     | zero=>cases hx;cases hx';exact h1
     | succ k=>exact h3.2 k x x' hx hx'
 have h1:=filt (fun b=>!seen.contains b) h;have h2:=filt (fun b=>decide (b<since)) h1;have h3:=filt (fun b=>decide (b ≥ since)) h1
 have gen:∀ {o o' k k':List MapEntry},EL m o o'->EL m k k'->((cond o.isEmpty [none] []++(o++k).map some=[none])->cond o'.isEmpty [none] []++(o'++k').map some=[none]) /\
  (∀ e,cond o.isEmpty [none] []++(o++k).map some=[some e]->∃ e',cond o'.isEmpty [none] []++(o'++k').map some=[some e']/\xK m e e'):=by
  intro o o' k k' ho hk
  cases o with
  | nil =>
   obtain rfl:o'=[]:=List.length_eq_zero_iff.1 ho.1.symm;refine ⟨fun h=>?_,fun e h=>by simp at h⟩
   have:k=[]:=by simpa using h
   subst this;obtain rfl:k'=[]:=List.length_eq_zero_iff.1 hk.1.symm;rfl
  | cons x o =>
   cases o' with
   | nil=>exact absurd ho.1 (by simp)
   | cons x' o' =>
    refine ⟨fun h=>by simp at h,fun e h=>?_⟩;simp at h;obtain ⟨rfl,rfl,rfl⟩:=h;obtain rfl:o'=[]:=List.length_eq_zero_iff.1 (by simpa using ho.1.symm);obtain rfl:k'=[]:=List.length_eq_zero_iff.1 hk.1.symm;exact ⟨x',rfl,ho.2 0 _ _ rfl rfl⟩
 exact gen h2 h3
theorem EL.all_born {es es':List MapEntry} (h:EL m es es') (p:Nat->Bool):es.all (fun e=>p e.born)=es'.all (fun e=>p e.born):=by
 induction es generalizing es' with
 | nil=>cases es' with | nil=>rfl | cons e l=>exact absurd h.1 (by simp)
 | cons e l ih =>
  cases es' with
  | nil=>exact absurd h.1 (by simp)
  | cons e' l' =>
   obtain ⟨h1,h2⟩:=h.tail;have hb:e.born=e'.born:=h1.2.2.2;rw [List.all_cons,List.all_cons,hb,ih h2]
theorem EL.isEmpty {es es':List MapEntry} (h:EL m es es'):es.isEmpty=es'.isEmpty:=by
 cases es <;> cases es' <;> first | rfl | exact absurd h.1 (by simp)
theorem kE {b:Nat} {o o':AObj} {it it':Obj} (hs:SR B X m s w) (hb:s.h.get b=some o) (ha:o.alive=true) {i:eP} (hi:m b=some i) (hw:w.heap[i.r]?=some it) (hit:∀ c e f,it≠.cells c e f)
 (ho:∀ w':World,w'.heap[i.r]?=some it'->gD m w' i o') :
 (setObj i.r it').run C.P w=.ok () {w with heap:=w.heap.setIfInBounds i.r it'}/\SR B X m ⟨s.n,s.h.put b o'⟩ {w with heap:=w.heap.setIfInBounds i.r it'}/\Below B w {w with heap:=w.heap.setIfInBounds i.r it'}:=by
 obtain ⟨_,hB,hlt⟩:=hs.rel b o i hb ha hi;refine ⟨?_,ep hs hb ha hi (by simp) (fun k hk=>?_) (ho _ ?_),⟨rfl,rfl,rfl,by simp,fun k hk=>?_⟩⟩
 ·cases it <;> first | (simp [setObj,Sem.run,hw];done) | exact absurd rfl (hit _ _ _)
 ·show (w.heap.setIfInBounds i.r _)[k]?=_;rw [Array.getElem?_setIfInBounds,if_neg (fun e=>hk e.symm)]
 ·show (w.heap.setIfInBounds i.r _)[i.r]?=_;rw [Array.getElem?_setIfInBounds,if_pos rfl,if_pos hlt]
 ·show (w.heap.setIfInBounds i.r _)[k]?=_;rw [Array.getElem?_setIfInBounds,if_neg (by omega)]
theorem yl (hs:SR B X m s w) (ht:TR m n a act) {x:Operand} {q:Bool} {ty:TypeId} {r:R} (h:pV x q C a s=some (r,s')) :
 bD C B X m s' w r ((do let z <-Instr.next (act.eval x) q ty;pure (Next.value z):Sem Next).run C.P w):=by
 unfold pV at h
 split at h
 ·rename_i b hx;obtain ⟨p',⟨_,i,hi,rfl⟩,hv⟩:=bu (oS ht hx);have hi':m b=some i:=hi
  split at h
  ·rename_i q pos hg;obtain ⟨⟨hd,hw⟩,hBi,hlt⟩:=hs.rel b _ i hg rfl hi';simp only [hd,Nat.add_zero] at hv;unfold zr at h
   cases hp:Nat.blt pos q.size with
   | false =>
    simp only [hp,cond_false,Option.some.injEq,Prod.mk.injEq] at h;obtain ⟨rfl,rfl⟩:=h
    have hnp:¬ pos<q.size:=fun e=>by rw [(Nat.blt_eq ▸ e:Nat.blt pos q.size=true)] at hp;cases hp
    refine bc.op (bc.same hs (v':=.tuple #[.bool false]) ?_ (LRel.tuple (l:=[.bool false]) (l':=[.bool false]) (LRel.plain rfl)));simp [Instr.next,hv,getObj,Sem.run,hw,hnp]
   | true =>
    simp only [hp,cond_true,Option.some.injEq,Prod.mk.injEq] at h;obtain ⟨rfl,rfl⟩:=h
    have hpp:pos<q.size:=by rwa [Nat.blt_eq] at hp
    obtain ⟨k1,k2,k3⟩:=kE (C:=C) (o':=.sit q (pos+(Utf8.decode q pos).2)) (it':=.stringIter q (pos+(Utf8.decode q pos).2)) hs hg rfl hi' hw (fun _ _ _ e=>by cases e) (fun w' hw'=>⟨hd,hw'⟩);refine bc.op ⟨.tuple #[.bool true,.int .i64 pos,.int .i32 (Utf8.decode q pos).1],_,m,?_,Le.refl _,k2,k3,LRel.tuple (l:=[_,_,_]) (l':=[_,_,_]) (LRel.plain rfl)⟩;simp [Instr.next,hv,getObj,Sem.run,hw,hpp,k1,goInt]
  ·rename_i si se la hg;obtain ⟨⟨hd,r',hw,hor⟩,hBi,hlt⟩:=hs.rel b _ i hg rfl hi';simp only [hd,Nat.add_zero] at hv
   cases h
   rcases hor with ⟨_,rfl⟩ | ⟨c,j,e,_⟩
   ·refine bc.op (bc.same hs (v':=.tuple #[.bool false]) ?_ (LRel.tuple (l:=[.bool false]) (l':=[.bool false]) (LRel.plain rfl)));simp [Instr.next,hv,getObj,Sem.run,hw]
   ·cases e
  ·rename_i rr si se la hg;obtain ⟨⟨hd,r',hw,hor⟩,hBi,hlt⟩:=hs.rel b _ i hg rfl hi';simp only [hd,Nat.add_zero] at hv
   rcases hor with ⟨e,_⟩ | ⟨c,j,e,hj,rfl⟩
   ·cases e
   cases e
   split at h
   ·rename_i es ck hm;obtain ⟨es',h2,h3,_⟩:=iG hs hm hj;unfold zt at h
    cases hc:(!se.isEmpty && !es.isEmpty && es.all (fun e=>decide (e.born ≥ la))) with
    | true=>rw [hc] at h;cases h
    | false =>
     rw [hc] at h;simp only [cond_false] at h
     have hc':(!se.toArray.isEmpty && !es'.toArray.isEmpty && es'.toArray.all (fun e=>decide (e.born ≥ la)))=false:=by
      rw [<-hc,h3.isEmpty,h3.all_born (fun b=>decide (b ≥ la))];simp
     have hcand:(if ((es'.toArray.filter fun e=>!se.toArray.contains e.born).filter (·.born<si)).isEmpty then #[none] else #[])++(((es'.toArray.filter fun e=>!se.toArray.contains e.born).filter (·.born<si))++((es'.toArray.filter fun e=>!se.toArray.contains e.born).filter (·.born ≥ si))).map some=(pU es' si se).toArray:=by
      have hA:es'.toArray.filter (fun e=>!se.toArray.contains e.born)=(es'.filter fun e=>!se.contains e.born).toArray:=by simp
      rw [hA];dsimp only [pU];generalize (es'.filter fun e=>!se.contains e.born)=L
      have hO:L.toArray.filter (fun e=>decide (e.born<si))=(L.filter fun e=>decide (e.born<si)).toArray:=by simp
      have hN:L.toArray.filter (fun e=>decide (e.born ≥ si))=(L.filter fun e=>decide (e.born ≥ si)).toArray:=by simp
      rw [hO,hN];generalize (L.filter fun e=>decide (e.born<si))=O;generalize (L.filter fun e=>decide (e.born ≥ si))=N
      cases O <;> simp
     obtain ⟨c1,c2⟩:=Dj h3 si se
     have g1:(getObj i.r).run C.P w=.ok (.mapIter (some j.r) si se.toArray la) w:=by simp [getObj,Sem.run,hw]
     have g2:(getObj j.r).run C.P w=.ok (.map es'.toArray ck) w:=by simp [getObj,Sem.run,h2]
     split at h
     ·rename_i hcl
      cases h
      have hcl':=c1 hcl;refine bc.op (bc.same hs (v':=.tuple #[.bool false]) ?_ (LRel.tuple (l:=[.bool false]) (l':=[.bool false]) (LRel.plain rfl)));unfold Instr.next;rw [hv];simp only [Sem.run_bind,g1,g2,Result.andThen];rw [if_neg (by rw [hc'];simp),hcand,hcl'];simp [choose,Sem.run,Question.forced]
     ·rename_i e hcl
      cases h
      obtain ⟨e',hcl',he⟩:=c2 e hcl
      obtain ⟨k1,k2,k3⟩:=kE (C:=C) (o':=.mit (some rr) si (se++[e.born]) ck) (it':=.mapIter (some j.r) si (se++[e'.born]).toArray ck) hs hg rfl hi' hw (fun _ _ _ e=>by cases e)
       (fun w' hw'=>⟨hd,some j.r,by rw [hw',he.2.2.2],.inr ⟨rr,j,rfl,hj,rfl⟩⟩)
      refine bc.op ⟨.tuple #[.bool true,e'.key,e'.val],_,m,?_,Le.refl _,k2,k3,LRel.tuple (l:=[_,_,_]) (l':=[_,_,_]) (LRel.cons (.plain _ rfl) (LRel.cons ?_ (LRel.cons he.2.2.1 (LRel.nil m))))⟩
      ·unfold Instr.next;rw [hv];simp only [Sem.run_bind,g1,g2,Result.andThen];rw [if_neg (by rw [hc'];simp),hcand,hcl'];simp [choose,Sem.run,Question.forced,k1]
      ·rw [<-he.1];exact .plain _ he.2.1
     ·cases h
   ·cases h
  ·cases h
 ·cases h
theorem find_born {es es':List MapEntry} (h:EL m es es') (st:Nat) {e:MapEntry} (hf:es.find? (fun e=>e.born==st)=some e):∃ e',es'.find? (fun e=>e.born==st)=some e'/\xK m e e':=by
 induction es generalizing es' with
 | nil=>cases hf
 | cons x l ih =>
  cases es' with
  | nil=>exact absurd h.1 (by simp)
  | cons x' l' =>
   obtain ⟨h1,h2⟩:=h.tail;have hb:x.born=x'.born:=h1.2.2.2;rw [List.find?_cons] at hf ⊢;rw [<-hb]
   cases hx:(x.born==st) with
   | true=>rw [hx] at hf;cases hf;exact ⟨x',rfl,h1⟩
   | false=>rw [hx] at hf;exact ih h2 hf
theorem vZ (hs:SR B X m s w) (ht:TR m n a act) {x:Operand} {r:R} (h:l4 x C a s=some (r,s')) :
 bD C B X m s' w r ((do let z <-Instr.entry (act.eval x);pure (Next.value z):Sem Next).run C.P w):=by
 unfold l4 at h
 split at h
 ·rename_i b hx;obtain ⟨p',⟨_,i,hi,rfl⟩,hv⟩:=bu (oS ht hx);have hi':m b=some i:=hi
  split at h
  ·rename_i rr si se la hg;obtain ⟨⟨hd,r',hw,hor⟩,hBi,hlt⟩:=hs.rel b _ i hg rfl hi';simp only [hd,Nat.add_zero] at hv
   rcases hor with ⟨e,_⟩ | ⟨c,j,e,hj,rfl⟩
   ·cases e
   cases e
   split at h
   ·rename_i st es ck hse hm
    cases hc:Nat.beq ck la with
    | false=>rw [hc] at h;cases h
    | true =>
     rw [hc] at h;simp only [cond_true] at h;obtain rfl:=bE hc
     split at h
     ·rename_i e he
      cases h
      obtain ⟨es',h2,h3,_⟩:=iG hs hm hj;obtain ⟨e',hf',her⟩:=find_born h3 st he;refine bc.op (bc.same hs (v':=.tuple #[e'.key,e'.val]) ?_ (LRel.tuple (l:=[_,_]) (l':=[_,_]) (LRel.cons ?_ (LRel.cons her.2.2.1 (LRel.nil m)))))
      ·have hb:se.toArray.back?=some st:=by rw [<-hse];simp
       simp [Instr.entry,hv,getObj,Sem.run,hw,h2,hb,hf']
      ·rw [<-her.1];exact .plain _ her.2.1
     ·cases h
   ·cases h
  ·cases h
 ·cases h
theorem su (hC:aM ω C) (hs:SR B X m s w) (ht:TR m n a act) (hBs:Bs ω C B w) {o:Oper} {r:R} (h:wT C o a s=some (r,s')) :
 bD C B X m s' w r ((execOp act.eval o).run C.P w):=by
 have hB:=hBs.le;unfold wT at h
 cases ho:o.op
 case move=>rw [ho] at h;simp only [execOp,ho];exact p7 hs ht h
 case assign=>rw [ho] at h;simp only [execOp,ho];exact p7 hs ht h
 case pick=>rw [ho] at h;simp only [execOp,ho];exact ya hs ht h
 case alloc=>rw [ho] at h;exact ez hC hs ht hB (by rw [ho];exact h)
 case box=>rw [ho] at h;exact ez hC hs ht hB (by rw [ho];exact h)
 case build=>rw [ho] at h;simp only [execOp,ho];exact vV hC hs ht h
 case buildSlice=>rw [ho] at h;exact ez hC hs ht hB (by rw [ho];exact h)
 case load=>rw [ho] at h;simp only [execOp,ho];exact yb hC hs ht hBs h
 case store=>rw [ho] at h;simp only [execOp,ho];exact vM hC hs ht h
 case binOp=>rw [ho] at h;simp only [execOp,ho];exact Bg hC hs ht h
 case unOp=>rw [ho] at h;simp only [execOp,ho];exact ye hs ht h
 case convert src dst x =>
  rw [ho] at h
  cases hc:fW src dst x C a with
  | some al=>exact ez hC hs ht hB (by rw [ho];show mX s (fW src dst x C a)=_;have h':cM src dst x C a s=some (r,s'):=h;unfold cM at h';rw [hc] at h' ⊢;exact h')
  | none=>simp only [execOp,ho];exact vT hC hs ht (by have h':cM src dst x C a s=some (r,s'):=h;unfold cM at h';rw [hc] at h';exact h')
 case makeInterface=>rw [ho] at h;simp only [execOp,ho];exact kj hC hs ht h
 case makeSlice=>rw [ho] at h;exact ez hC hs ht hB (by rw [ho];exact h)
 case slice=>rw [ho] at h;simp only [execOp,ho];exact vO hC hs ht h
 case fieldAddr=>rw [ho] at h;simp only [execOp,ho];exact od hC hs ht h
 case field=>rw [ho] at h;simp only [execOp,ho];exact vQ hC hs ht h
 case indexAddr=>rw [ho] at h;simp only [execOp,ho];exact oe hC hs ht h
 case index=>rw [ho] at h;simp only [execOp,ho];exact vR hC hs ht h
 case lookup=>rw [ho] at h;simp only [execOp,ho];exact tY hC hs ht h
 case mapUpdate=>rw [ho] at h;simp only [execOp,ho];exact iQ hC hs ht h
 case insert=>rw [ho] at h;simp only [execOp,ho];exact iQ hC hs ht h
 case typeAssert=>rw [ho] at h;simp only [execOp,ho];exact m7 hC hs ht h
 case extract=>rw [ho] at h;simp only [execOp,ho];exact ri hs ht h
 case call=>rw [ho] at h;simp only [execOp,ho];exact yk hC hs ht hBs h
 case nilCheck=>rw [ho] at h;exact p9 hs ht o ho h
 case range=>rw [ho] at h;simp only [execOp,ho];exact vY hC hs ht hB h
 case next=>rw [ho] at h;simp only [execOp,ho];exact yl hs ht h
 case entry=>rw [ho] at h;simp only [execOp,ho];exact vZ hs ht h
 case makeFunc f fs cs =>
  rw [ho] at h;simp only [execOp,ho]
  cases f
  case func g=>exact qa hs ht h
  all_goals (cases h)
 case makeMap t r =>
  rw [ho] at h
  cases r
  case none=>exact ez hC hs ht hB (by rw [ho];exact h)
  case some=>cases h
 all_goals (rw [ho] at h;cases h)
end
end Go.Proofs.YtgohffhoapkeaaaGreatDoor.Ev
namespace Go.Proofs.YtgohffhoapkeaaaGreatDoor.Ev
open Go.RowKit
variable {ω:Nat->Value}
section
variable {C:Ctx} {B:Nat} {X:cK} {m:M ω} {s s':AS} {w:World} {a a':T Value} {act:Act} {n:Nat}
def Agree (op:Op) (a a':T Value):Prop:=∀ x∈op.operands,aQ a x=aQ a' x
theorem jp {l:List Operand} (h:∀ x∈l,aQ a x=aQ a' x):fe a l=fe a' l:=by
 induction l with
 | nil=>rfl
 | cons x l ih=>simp only [fe];rw [h x (by simp),ih (fun y hy=>h y (by simp [hy]))]
theorem nI {l:List (Nat × Operand)} (h:∀ x∈l.map (·.2),aQ a x=aQ a' x):parts a l=parts a' l:=by
 induction l with
 | nil=>rfl
 | cons x l ih=>obtain ⟨i,x⟩:=x;simp only [parts];rw [h x (by simp),ih (fun y hy=>h y (by simp only [List.map_cons,List.mem_cons];exact .inr hy))]
theorem m8 {x:Option Operand} (h:∀ y∈x,aQ a y=aQ a' y):B6 a x=B6 a' x:=by
 cases x with
 | none=>rfl
 | some x=>simp only [B6];rw [h x rfl]
theorem mc {op:Op} (h:Agree op a a'):ki op C a=ki op C a':=by
 cases op <;> unfold Agree at h <;> simp only [Op.operands] at h <;> unfold ki <;> try rfl
 case box t x=>simp only [sg];rw [h x (by simp)]
 case buildSlice t k ps=>simp only [cL];rw [nI (a':=a') (fun x hx=>h x (by simpa using hx))]
 case convert s d x=>simp only [fW];rw [h x (by simp)]
 case makeMap t r=>cases r <;> rfl
 case makeSlice t l c=>simp only [dK];rw [h l (by simp),h c (by simp)]
theorem Bo {op:Op} (h:Agree op a a'):xX op C a s=xX op C a' s:=by
 have hal:=mc (C:=C) h
 cases op <;> unfold Agree at h <;> simp only [Op.operands] at h <;> unfold xX <;> try rfl
 case move x=>simp only [iB];rw [h x (by simp)]
 case assign x=>simp only [iB];rw [h x (by simp)]
 case pick c x y=>simp only [mW];rw [h c (by simp),h x (by simp),h y (by simp)]
 case box t x=>exact congrArg (mX s) hal
 case build t ps=>simp only [jM];rw [nI (a':=a') (fun x hx=>h x (by simpa using hx))]
 case buildSlice t k ps=>exact congrArg (mX s) hal
 case insert t x k v=>simp only [cC];rw [h x (by simp),h k (by simp),h v (by simp)]
 case load t x=>cases x <;> simp only [mY,C7,vH] <;> first | rfl | (rw [h _ (by simp)])
 case store t x y=>simp only [lV];rw [h x (by simp),h y (by simp)]
 case nilCheck x=>simp only [ef];rw [h x (by simp)]
 case binOp op t x y z=>simp only [jN];rw [h x (by simp),h y (by simp)]
 case unOp op t x=>simp only [mZ];rw [h x (by simp)]
 case convert sr d x =>
  have e:fW sr d x C a=fW sr d x C a':=hal
  simp only [cM];rw [e];cases fW sr d x C a' with
  | some al=>rfl
  | none=>simp only [lW];rw [h x (by simp)]
 case makeInterface t x=>simp only [bz];rw [h x (by simp)]
 case makeFunc f fs cs =>
  cases f <;> try rfl
  simp only [dE];rw [jp (a':=a') (l:=fs.toList) (fun x hx=>h x (by simp at hx ⊢;exact .inl hx)),jp (a':=a') (l:=cs.toList) (fun x hx=>h x (by simp at hx ⊢;exact .inr hx))]
 case makeMap t r=>cases r <;> rfl
 case makeSlice t l c=>exact congrArg (mX s) hal
 case slice t x lo hi mx =>
  simp only [jO];rw [h x (by simp),m8 (a':=a') (x:=lo) (fun y hy=>h y (by cases lo <;> simp_all)),m8 (a':=a') (x:=hi) (fun y hy=>h y (by cases hi <;> simp_all)),m8 (a':=a') (x:=mx) (fun y hy=>h y (by cases mx <;> simp_all))]
 case fieldAddr t x f=>simp only [dL];rw [h x (by simp)]
 case field t x f=>simp only [jP];rw [h x (by simp)]
 case indexAddr t x i=>simp only [dM];rw [h x (by simp),h i (by simp)]
 case index t x i=>simp only [jQ];rw [h x (by simp),h i (by simp)]
 case lookup t x k ok=>simp only [gV];rw [h x (by simp),h k (by simp)]
 case mapUpdate t x k v=>simp only [cC];rw [h x (by simp),h k (by simp),h v (by simp)]
 case range t x=>simp only [lX];rw [h x (by simp)]
 case next x q=>simp only [pV];rw [h x (by simp)]
 case entry x=>simp only [l4];rw [h x (by simp)]
 case typeAssert x xt t ok=>simp only [b6];rw [h x (by simp)]
 case extract x i=>simp only [fC];rw [h x (by simp)]
 case call c =>
  simp only [kU];rw [jp (a':=a') (l:=c.args.toList) (fun x hx=>h x (by simp [Call.operands];exact .inr (by simpa using hx)))]
  cases hc:c.callee with
  | builtin b=>cases fe a' c.args.toList <;> rfl
  | value f =>
   have e:=h f (by simp [Call.operands,hc])
   cases fe a' c.args.toList with
   | none=>rfl
   | some vs=>dsimp only;rw [e]
  | invoke r nm =>
   have e:=h r (by simp [Call.operands,hc])
   cases fe a' c.args.toList with
   | none=>rfl
   | some vs=>dsimp only;rw [e]
theorem sv {o:Oper} (h:Agree o.op a a'):wT C o a s=wT C o a' s:=Bo h
theorem wa {t:TypeId} {ok:Bool} {r:R} (he:sh C t ok s=some (r,s')):s'=s/\∃ v,r=.val v:=by
 simp only [sh,cond_eq_ite] at he
 (repeat' split at he) <;> cases he
 exact ⟨rfl,_,rfl⟩
theorem qg {o:Oper} (h:pW C o.op=true) (hal:ki o.op C a=none) {r:R} (he:wT C o a s=some (r,s')):s'=s/\∃ v,r=.val v:=by
 have mv:∀ {x:Operand},iB x C a s=some (r,s')->s'=s/\∃ v,r=.val v:=by
  intro x he;unfold iB at he
  cases hx:aQ a x with
  | none=>rw [hx] at he;cases he
  | some v=>rw [hx] at he;cases he;exact ⟨rfl,_,rfl⟩
 unfold wT at he
 cases ho:o.op <;> rw [ho] at h he hal <;> first | (cases h;done) | skip
 case move x=>exact mv he
 case assign x=>exact mv he
 case makeFunc f fs cs =>
  cases f <;> first | (cases he;done) | skip
  have he':dE _ fs cs C a s=some (r,s'):=he;simp only [dE] at he'
  (repeat' split at he') <;> cases he'
  exact ⟨rfl,_,rfl⟩
 case typeAssert x xt t ok =>
  have he':b6 x t ok C a s=some (r,s'):=he;simp only [b6,cond_eq_ite] at he'
  (repeat' split at he') <;> first | (cases he';done) | (cases he';exact ⟨rfl,_,rfl⟩) | exact wa he'
 case convert sr d x =>
  have he':cM sr d x C a s=some (r,s'):=he;have hn:fW sr d x C a=none:=hal;unfold cM at he';rw [hn] at he';simp only [lW] at he'
  split at he'
  ·split at he'
   ·rename_i v r' s2 hc
    cases he'
    refine ⟨?_,_,rfl⟩;unfold zj at hc;rename_i z hz0
    cases hch:isChan z with
    | true =>
     rw [hch] at hc;simp only [cond_true,tM] at hc
     split at hc <;> cases hc
     rfl
    | false =>
    rw [hch] at hc;simp only [cond_false] at hc
    split at hc
    ·split at hc
     ·simp only [tK] at hc
      (repeat' split at hc) <;> cases hc <;> rfl
     ·simp only [tL,cond_eq_ite] at hc
      (repeat' split at hc) <;> cases hc <;> rfl
     ·simp only [xQ,cond_eq_ite] at hc
      (repeat' split at hc) <;> cases hc <;> rfl
     ·cases hc
    ·cases hc
   ·cases he'
  ·cases he'
 case call c =>
  have hb:C9 c.callee=true:=h;have he':kU c C a s=some (r,s'):=he;unfold kU at he'
  split at he'
  ·rename_i b vs hc hv;rw [hc] at hb;have hb':zy b=true:=hb
   cases b <;> first | (cases hb';done) | skip
   all_goals
    unfold lR pQ at he';simp only [zk,xR,zl,jg,cond_eq_ite] at he'
    (repeat' split at he') <;> first | (cases he';done) | (cases he';exact ⟨rfl,_,rfl⟩)
  ·rename_i hc _;rw [hc] at hb;cases hb
  ·rename_i hc _;rw [hc] at hb;cases hb
  ·cases he'
 all_goals
  simp only [xX,mW,jM,mY,zo,vH,ef,jN,mZ,bz,jO,dL,jP,dM,jQ,gV,fC,cond_eq_ite] at he
  (repeat' split at he) <;> first | (cases he;done) | (cases he;exact ⟨rfl,_,rfl⟩)
theorem fF {f:Value->Value->Bool} (hf:∀ x y,f x y=true->x=y):∀ {l k:List Value},EO f l k=true->l=k
 | [],[],_=>rfl
 | [],_::_,h=>by cases h
 | _::_,[],h=>by cases h
 | x::l,y::k,h=>by
  simp only [EO] at h
  cases hx:f x y with
  | false=>rw [hx] at h;cases h
  | true=>rw [hx] at h;rw [hf x y hx,fF hf h]
theorem qm:∀ {l k:List UInt8},EP l k=true->l=k
 | [],[],_=>rfl
 | [],_::_,h=>by cases h
 | _::_,[],h=>by cases h
 | x::l,y::k,h=>by
  simp only [EP] at h
  cases hx:Nat.beq x.toNat y.toNat with
  | false=>rw [hx] at h;cases h
  | true=>rw [hx] at h;rw [qm h,UInt8.toNat_inj.1 (bE hx)]
theorem sw {p q:Addr} (h:IG p q=true):p=q:=by
 obtain ⟨b,o,sp⟩:=p;obtain ⟨c,d,sq⟩:=q;unfold IG at h
 split at h
 ·rename_i h1 h2;simp only at h1 h2;subst h1;subst h2;rw [Bool.and_eq_true] at h;have e1:=bE h.1;have e2:=bE h.2;simp only at e1 e2;rw [e1,e2]
 ·cases h
theorem m9 {p q:Int} (h:Gu p q=true):p=q:=by
 cases p <;> cases q <;> simp only [Gu] at h <;> first | (rw [bE h];done) | (cases h;done)
theorem fG:∀ (k:Nat) (x y:Value),A0 k x y=true->x=y
 | 0,_,_,h=>by cases h
 | k+1,x,y,h=>by
  have ih:=fG k;unfold A0 at h
  split at h
  ·rename_i p q;cases p <;> cases q <;> first | rfl | (cases h;done)
  ·rw [Bool.and_eq_true] at h;rw [of_decide_eq_true h.1,m9 h.2]
  ·rename_i p q;have e:=qm h;congr 1
   cases p;cases q
   simp only at e;congr 1;exact Array.toList_inj.1 e
  ·rfl
  ·rfl
  ·rw [bE h]
  ·rfl
  ·rfl
  ·rw [sw h]
  ·rw [Bool.and_eq_true] at h;rw [bE h.1,bE h.2]
  ·rw [Bool.and_eq_true,Bool.and_eq_true] at h;rw [sw h.1,bE h.2.1,bE h.2.2]
  ·rfl
  ·rw [bE h]
  ·rw [Bool.and_eq_true] at h;rw [bE h.1,ih _ _ h.2]
  ·rw [Array.toList_inj.1 (fF ih h)]
  ·rw [Array.toList_inj.1 (fF ih h)]
  ·rw [Bool.and_eq_true,Bool.and_eq_true] at h;rw [bE h.1,Array.toList_inj.1 (fF ih h.2.1),Array.toList_inj.1 (fF ih h.2.2)]
  ·cases h
theorem nJ {d:Option Tmp} {v:Value} (h:zz a d v=true) {t:Tmp} (ht:d=some t):a.get t=some v:=by
 subst ht;simp only [zz] at h
 split at h
 ·rename_i u hu;rw [hu,fG _ _ _ h]
 ·cases h
theorem jW (D i:Nat):aB D i=D.testBit i:=by
 unfold aB Nat.testBit;show Nat.beq ((D >>> i) &&& 1) 1=(1 &&& (D >>> i) != 0);rw [Nat.and_comm,Nat.one_and_eq_mod_two]
 rcases Nat.mod_two_eq_zero_or_one (D >>> i) with h | h <;> rw [h] <;> rfl
theorem me (D i j:Nat):aB (gW D i) j=(decide (j=i) || aB D j):=by
 rw [jW,jW];unfold gW;show (D ||| (1 <<< i)).testBit j=_;rw [Nat.testBit_or,Nat.one_shiftLeft,Nat.testBit_two_pow,Bool.or_comm];congr 1;exact decide_eq_decide.2 eq_comm
theorem na (D i:Nat):aB (gW D i) i=true:=by rw [me];simp
theorem dh {D i j:Nat} (h:aB D j=true):aB (gW D i) j=true:=by rw [me,h];simp
theorem ce {D i j:Nat} (h:aB (gW D i) j=true):j=i\/aB D j=true:=by
 rw [me,Bool.or_eq_true] at h;exact h.imp (fun e=>of_decide_eq_true e) id
theorem cP (i:Nat):aB 0 i=false:=by rw [jW];simp
theorem nK {D:Nat} {es:List Edge}:cr D es=true↔∀ e∈es,Region.binds .any e=true->aB D e.on=true:=by
 induction es with
 | nil=>simp [cr]
 | cons e es ih =>
  simp only [cr,List.forall_mem_cons,<-ih]
  cases Region.binds .any e <;> cases aB D e.on <;> simp
theorem Bp {i:Nat} {es:List Edge}:ahead i es=true↔∀ e∈es,Region.binds .any e=true->e.on<i:=by
 induction es with
 | nil=>simp [ahead]
 | cons e es ih =>
  simp only [ahead,List.forall_mem_cons,<-ih]
  have hb:(Nat.blt e.on i=true)↔e.on<i:=by rw [Nat.blt_eq]
  cases Region.binds .any e <;> cases hc:Nat.blt e.on i <;> simp <;> rw [hc] at hb <;> simp at hb <;> first | omega | (intros;omega)
end
end Go.Proofs.YtgohffhoapkeaaaGreatDoor.Ev
namespace Go.Proofs.YtgohffhoapkeaaaGreatDoor.Ev
open Go.RowKit
variable {ω:Nat->Value}
def cU (B:Nat) (X:cK) (m:M ω) (s':AS) (w:World) (v:Value) (v':Value) (w':World):Prop:=∃ m',Le m m'/\SR B X m' s' w'/\VRel m' v v'/\Below B w w'
def lq (q:Bool) (F:Fence):Prop:=(q=false/\F=Fence.wide)\/(q=true/\∃ l,F=Fence.wide.inRound l)
section
variable {q:Bool} {F:Fence}
theorem lq.fn (h:lq q F) (f:FuncId):F.fn f:=by rcases h with ⟨_,rfl⟩ | ⟨_,l,rfl⟩ <;> trivial
theorem lq.depth (h:lq q F):F.depth=none:=by rcases h with ⟨_,rfl⟩ | ⟨_,l,rfl⟩ <;> rfl
theorem lq.deep (h:lq q F) (n:Nat):F.depth.isSome=true->1<=n:=fun e=>by rw [h.depth] at e;cases e
theorem lq.calls (h:lq q F) {n:Nat} {P:Program} {f:FuncId} {args:Array Value} {w:World} {R:Ending->World->Prop} (hc:CallsIn Fence.wide n P f args w R):CallsIn F n P f args w R:=by
 rcases h with ⟨_,rfl⟩ | ⟨_,l,rfl⟩
 ·exact hc
 ·exact hc
theorem lq.inRound (h:lq q F) (l:Nat):F.inRound l=Fence.wide.inRound l:=by rcases h with ⟨_,rfl⟩ | ⟨_,l',rfl⟩ <;> rfl
theorem lq.round (l:Nat):lq true (Fence.wide.inRound l):=.inr ⟨rfl,l,rfl⟩
end
inductive MK (K0:Nat->Option Obj):(Nat->Option Obj)->List Deferred->Prop
 | nil:MK K0 K0 []
 | cons (D:Nat) (K:Nat->Option Obj) (ds:List Deferred) (h:MK K0 K ds) (hD:K D=none):MK K0 (fun r=>if r=D then some (.deferred (some [])) else K r) ({target:=.collected D,args:=#[]} :: ds)
def Gz:Xt->Exit
 | .normal=>.normal
 | .exit id=>.exit id
 | .ret=>.ret
def iR (B:Nat) (X:cK) (m:M ω) (N:Nat) (x:Xt) (a':T Value) (s':AS) (w:World) (K0:Nat->Option Obj) (e:Exit) (act':Act) (w':World):Prop :=
 e=Gz x/\∃ X' m',X'.G=X.G/\MK K0 X'.K act'.defers/\Le m m'/\SR B X' m' s' w'/\TR m' N a' act'/\Below B w w'
def qn (C:Ctx) (g:FuncId) (args:Array Value) (w:World) (R:Value->World->Prop):Prop :=
 ∀ (q:Bool) (F:Fence) (n:Nat) (o:Oper) (act:Act) (K:Act->World->Prop) (Q:Exit->Act->World->Prop),lq q F->(∀ v' w',R v' w'->K (act.put o.dst v') w')->o.uponIn F n C.P act K Q ((callFunc g args).run C.P w)
structure uJ (ω:Nat->Value) (C:Ctx):Prop where
 ok:aM ω C
 mixed:C.P.follows .mixedOrders=true
 sp:∀ g k,C.sp g=some k->∀ vs s v s',k vs s=some (v,s')->∀ (B:Nat) (X:cK) (m:M ω) (w:World) (args:Array Value),SR B X m s w->LRel m vs args.toList->Bs ω C B w->qn C g args w (cU B X m s' w v)
def rn (ω:Nat->Value) (C:Ctx) (ih:bL):Prop:=∀ q N c a s x a' s',ih.c q N c a s=some (x,a',s')->∀ (B:Nat) (X:cK) (m:M ω) (act:Act) (w:World) (F:Fence) (n:Nat) (K0:Nat->Option Obj),
 lq q F->SR B X m s w->TR m N a act->MK K0 X.K act.defers->Bs ω C B w->c.wpIn F n C.P (iR B X m N x a' s' w K0) act w
def IJ (B:Nat) (X:cK) (m:M ω) (s':AS) (w:World) (v:Value) (e:Ending) (w':World):Prop:=∃ v',e=.returned v'/\cU B X m s' w v v' w'
def wb (ω:Nat->Value) (C:Ctx) (ih:bL):Prop:=∀ g vs s v s',ih.f g vs s=some (v,s')->∀ (B:Nat) (X:cK) (m:M ω) (w:World) (args:Array Value),SR B X m s w->LRel m vs args.toList->Bs ω C B w ->
 qn C g args w (cU B X m s' w v)/\(C.sp g=none->(∀ args w,(callFunc g args).run C.P w=.ok (.enter g args) w)/\∀ n,CallsIn Fence.wide n C.P g args w (IJ B X m s' w v))
section
variable {C:Ctx} {B:Nat} {X:cK} {m:M ω} {s s':AS} {w:World} {a a':T Value} {act:Act} {n N:Nat} {ih:bL}
theorem gZ:VRel m undef undef:=by
 unfold undef
 first
  | exact .plain _ rfl
  | exact LRel.tuple (l:=[]) (l':=[]) (LRel.nil m)
theorem jq {g:FuncId} {args:Array Value} {v:Value} (he:(callFunc g args).run C.P w=.ok (.enter g args) w) (h:∀ n,CallsIn Fence.wide n C.P g args w (IJ B X m s' w v)):qn C g args w (cU B X m s' w v):=by
 intro q F n o act K Q hF hK;rw [he,Oper.uponIn_enter];refine ⟨hF.deep n,(hF.calls (h (n-1))).mono ?_⟩;rintro e w' ⟨v',rfl,hr⟩;exact hK v' w' hr
theorem wc (tm:Array Value) (p k:Nat) (v:Value) (hp:p<tm.size):(tm.setIfInBounds p v).getD k undef=if k=p then v else tm.getD k undef:=by
 by_cases h:k=p
 ·subst h;simp [hp]
 ·rw [if_neg h];simp only [Array.getD_eq_getD_getElem?,Array.getElem?_setIfInBounds_ne (fun e=>h e.symm)]
theorem mf:∀ {ps:List Tmp} {vs l:List Value} {t:T Value} {tm:Array Value},tS N ps vs t=some a->LRel m vs l->tm.size=N->(∀ k,VRel m ((t.get k).getD undef) (tm.getD k undef)) ->
 ps.length=l.length/\((ps.zip l).foldl (fun tm (x:Tmp × Value)=>tm.setIfInBounds x.1 x.2) tm).size=N/\∀ k,VRel m ((a.get k).getD undef) (((ps.zip l).foldl (fun tm (x:Tmp × Value)=>tm.setIfInBounds x.1 x.2) tm).getD k undef)
 | [],[],[],t,tm,h,hl,hs,hr=>by cases h;exact ⟨rfl,hs,hr⟩
 | [],[],_::_,t,tm,h,hl,hs,hr=>absurd hl.1 (by simp)
 | [],_::_,_,t,tm,h,hl,hs,hr=>by cases h
 | _::_,[],_,t,tm,h,hl,hs,hr=>by cases h
 | _::_,_::_,[],t,tm,h,hl,hs,hr=>absurd hl.1 (by simp)
 | p::ps,v::vs,u::l,t,tm,h,hl,hs,hr=>by
  simp only [tS] at h
  cases hp:Nat.blt p N with
  | false=>rw [hp] at h;cases h
  | true =>
   rw [hp] at h;rw [Nat.blt_eq] at hp;obtain ⟨h1,h2⟩:=hl.tail
   have:=mf (tm:=tm.setIfInBounds p u) h h2 (by simpa using hs) (fun k=>by
    rw [T.get_put,wc _ _ _ _ (by omega)];by_cases hk:k=p
    ·rw [if_pos hk,if_pos hk];exact h1
    ·rw [if_neg hk,if_neg hk];exact hr k)
   exact ⟨by simp [this.1],this.2⟩
theorem H5 {K0 K:Nat->Option Obj} {ds:List Deferred} (h:MK K0 K ds):∀ (d:Nat) (k:Obj),K0 d=some k->K d=some k:=by
 induction h with
 | nil=>exact fun d k h=>h
 | cons D K ds _ hD ih =>
  intro d k hk;have:=ih d k hk;show (if d=D then _ else K d)=some k;rw [if_neg (fun e=>by rw [e,hD] at this;cases this)];exact this
theorem kF {b:Nat} {t:T Value} {nt:Nat} {ps:List Tmp} {asg bd:Code} {st st':Ha} (hs:SR B X m s w) (hb:s.h.get b=some (.loop t nt ps asg bd st)) {i:eP} (hi:m b=some i) {r r':Loop}
 (hw:w.heap[i.r]?=some (.loop r)) (hr:r'.params=r.params/\r'.assign=r.assign/\r'.body=r.body/\r'.tmps=r.tmps) (hst:st'.is r') :
 SR B X m ⟨s.n,s.h.put b (.loop t nt ps asg bd st')⟩ (w.putObj i.r (.loop r'))/\Below B w (w.putObj i.r (.loop r')):=by
 obtain ⟨⟨r0,h0,h1,h2,h3,h4,h5,h6⟩,hB,hlt⟩:=hs.rel b _ i hb rfl hi;rw [hw] at h0;cases h0
 refine ⟨ep hs hb rfl hi (by simp [World.putObj]) (fun k hk=>World.putObj_heap_other hk) ⟨r',World.putObj_heap_same hlt,hr.1.trans h1,hr.2.1.trans h2,hr.2.2.1.trans h3,by rw [hr.2.2.2];exact h4,hst,fun k=>by rw [hr.2.2.2];exact h6 k⟩,
  ⟨rfl,rfl,rfl,by simp [World.putObj],fun k hk=>World.putObj_heap_other (by omega)⟩⟩
theorem we (hc:rn ω C ih) (hs:SR B X m s w) (hB:Bs ω C B w) {l:Nat} {vs:List Value} {v:Value} (h:p5 ih l vs s=some (v,s')) {i:eP} (hi:m l=some i) {args:Array Value} (hl:LRel m vs args.toList)
 {q:Bool} {F:Fence} (hF:lq q F) {o:Oper} {K:Act->World->Prop} {Q:Exit->Act->World->Prop} (hK:∀ v' w',cU B X m s' w v v' w'->K (act.put o.dst v') w') :
 o.uponIn F n C.P act K Q ((Instr.yield i.r args).run C.P w):=by
 unfold p5 at h
 split at h
 ·rename_i t nt ps asg bd hg;obtain ⟨⟨r,h0,h1,h2,h3,h4,h5,h6⟩,hBi,hlt⟩:=hs.rel l _ i hg rfl hi
  split at h
  ·rename_i a1 ha1
   split at h
   ·rename_i a2 s2 ha2;obtain ⟨e1,e2,e3⟩:=mf ha1 hl h4 h6;rw [run_yield (P:=C.P) h0 (by rw [h1];simpa using e1.symm),Oper.uponIn_round];refine ⟨hF.deep n,roundIn_of_wpIn (hF.fn _) ?_⟩;rw [hF.inRound,h2,h3,h1]
    have hfold:(ps.toArray.zip args).foldl (fun tm (x:Tmp × Value)=>tm.setIfInBounds x.1 x.2) r.tmps=(ps.zip args.toList).foldl (fun tm (x:Tmp × Value)=>tm.setIfInBounds x.1 x.2) r.tmps:=by
     rw [<-Array.foldl_toList];simp
    have hT:TR m nt a1 {tmps:=(ps.toArray.zip args).foldl (fun tm (x:Tmp × Value)=>tm.setIfInBounds x.1 x.2) r.tmps,defers:=[]}:=⟨by rw [hfold];exact e2,fun k=>by rw [hfold];exact e3 k⟩
    refine wpIn_mono (hc _ _ _ _ _ _ _ _ ha2 B X m _ w _ (n-1) X.K (lq.round i.r) hs hT .nil hB) ?_;rintro e act1 w1 ⟨rfl,X1,m1,hG1,hM1,hle1,hs1,hT1,hb1⟩;show ∃ w₂,_;unfold Dc at h
    split at h
    ·rename_i t' nt' ps' asg' bd' hg1;have hi1:=hle1 _ _ hi;obtain ⟨⟨r1,k0,k1,k2,k3,k4,k5,k6⟩,kB,klt⟩:=hs1.rel l _ i hg1 rfl hi1
     split at h
     ·rename_i x a3 s3 ha3;obtain ⟨g1,g2⟩:=kF (st':=.busy) (r':={r1 with state:=.busy}) hs1 hg1 hi1 k0 ⟨rfl,rfl,rfl,rfl⟩ rfl;refine ⟨_,run_beginRound (P:=C.P) k0 k5.1,?_⟩;have hBw:=hB.next (hb1.trans g2);refine wpIn_mono (hc _ _ _ _ _ _ _ _ ha3 B X1 m1 act1 _ _ (n-1) X.K (lq.round i.r) g1 hT1 hM1 hBw) ?_;rintro e act3 w3 ⟨rfl,X3,m3,hG3,hM3,hle3,hs3,hT3,hb3⟩;unfold FL at h
      split at h
      ·rename_i t3 nt3 ps3 asg3 bd3 hg3;have hi3:=hle3 _ _ hi1;obtain ⟨⟨r3,j0,j1,j2,j3,j4,j5,j6⟩,jB,jlt⟩:=hs3.rel l _ i hg3 rfl hi3
       have fin:∀ (jump:Option Code) (st':Ha),st'.is {r3 with state:=if jump.isNone then .ready else .done,pending:=jump}->s'=⟨s3.n,s3.h.put l (.loop t3 nt3 ps3 asg3 bd3 st')⟩->v=.bool jump.isNone ->
        ∃ v' w',(Instr.endRound i.r jump).run C.P w3=.ok v' w'/\K (act.put o.dst v') w':=by
        intro jump st' hst he hv;obtain ⟨f1,f2⟩:=kF (st':=st') (r':={r3 with state:=if jump.isNone then .ready else .done,pending:=jump}) hs3 hg3 hi3 j0 ⟨rfl,rfl,rfl,rfl⟩ hst;refine ⟨_,_,run_endRound (P:=C.P) jump j0,hK _ _ ⟨m3,fun b k hk=>hle3 _ _ (hle1 _ _ hk),?_,by rw [hv];exact .plain _ rfl,(hb1.trans g2).trans (hb3.trans f2)⟩⟩;rw [he];exact f1.ghosts (fun b k hk=>by rw [hG3,hG1];exact hk) (fun d k hk=>H5 hM3 d k hk)
       cases x with
       | normal=>cases h;exact fin none .ready ⟨rfl,rfl⟩ rfl rfl
       | ret=>cases h;exact fin (some .ret) (.done .ret) ⟨rfl,rfl⟩ rfl rfl
       | exit id=>cases h;exact fin (some (.exit id)) (.done (.exit id)) ⟨rfl,rfl⟩ rfl rfl
      ·cases h
     ·cases h
    ·cases h
   ·cases h
  ·cases h
 ·cases h
theorem sx (hC:uJ ω C) (hc:rn ω C ih) (hf:wb ω C ih) {q:Bool} {F:Fence} (hF:lq q F) (hs:SR B X m s w) (ht:TR m N a act) (hB:Bs ω C B w) {o:Oper} {v:Value} (h:m5 ih (wT C o a s)=some (v,s'))
 {act2:Act} (hev:execOp act2.eval o=execOp act.eval o) {K:Act->World->Prop} {Q:Exit->Act->World->Prop} (hK:∀ v' w',cU B X m s' w v v' w'->K (act2.put o.dst v') w'):o.wpIn F n C.P act2 w K Q:=by
 have hnd:∀ c,o.op≠.defer c:=by
  intro c hd;unfold wT at h;rw [hd] at h
  cases h
 refine ⟨fun f _=>hF.fn f,?_⟩;rw [Oper.semAt_eq _ _ _ hnd,hev]
 cases ha:wT C o a s with
 | none=>rw [ha] at h;cases h
 | some p =>
  obtain ⟨r,s1⟩:=p;rw [ha] at h;have ho:=su hC.ok hs ht hB ha
  cases r with
  | val v1 =>
   cases h
   obtain ⟨nx,w',m',hr,hle,hs',hb,hrr⟩:=ho;rw [hr]
   cases nx <;> first | (exact hrr.elim;done) | exact hK _ _ ⟨m',hle,hs',hrr,hb⟩
  | skip =>
   cases h
   obtain ⟨nx,w',m',hr,hle,hs',hb,hrr⟩:=ho;rw [hr]
   cases nx <;> first | (exact hrr.elim;done) | exact hK _ _ ⟨m',hle,hs',gZ,hb⟩
  | call g vs =>
   obtain ⟨args,hl,hr,hs1⟩:=ho;rw [hr];exact (hf _ _ _ _ _ h B X m w args hs1 hl hB).1 q F n o act2 K Q hF hK
  | round b vs =>
   obtain ⟨i,args,hi,hl,hr,hs1⟩:=ho;rw [hr];exact we hc hs1 hB h hi hl hF hK
end
end Go.Proofs.YtgohffhoapkeaaaGreatDoor.Ev
namespace Go.Proofs.YtgohffhoapkeaaaGreatDoor.Ev
open Go.RowKit
variable {ω:Nat->Value}
structure Good (ops:Array Oper):Prop where
 once:∀ (i j:Nat) (oi oj:Oper) (t:Tmp),ops[i]?=some oi->ops[j]?=some oj->oi.dst=some t->oj.dst=some t->i=j
 ahead:∀ (i:Nat) (o:Oper),ops[i]?=some o->∀ e∈o.after,Region.binds .any e=true->e.on<i
 reads:∀ (i j:Nat) (o oj:Oper) (t:Tmp),ops[i]?=some o->.tmp t∈o.op.operands->ops[j]?=some oj->oj.dst=some t->(∃ e∈o.after,Region.binds .any e=true/\e.on=j)\/(pX ops.toList j oj=true/\∃ e∈oj.after,Region.binds .any e=true/\e.on=i)
 guards:∀ (i g:Nat) (o:Oper) (b:Bool),ops[i]?=some o->o.guard=some (g,b)->∃ og t,ops[g]?=some og/\og.dst=some t/\∃ e∈o.after,Region.binds .any e=true/\e.on=g
 nosel:∀ (i:Nat) (o:Oper) cs b,ops[i]?=some o->o.op≠.select cs b
theorem qo {t:Tmp}:∀ {l:List Oper},aB (pZ l) t=true↔∃ o∈l,o.dst=some t
 | []=>by simp [pZ,cP]
 | o::os=>by
  have ih:=qo (t:=t) (l:=os);simp only [pZ,List.mem_cons]
  cases hd:o.dst with
  | none =>
   simp only [];rw [ih];constructor
   ·rintro ⟨p,hp,he⟩;exact ⟨p,.inr hp,he⟩
   ·rintro ⟨p,rfl | hp,he⟩
    ·rw [hd] at he;cases he
    ·exact ⟨p,hp,he⟩
  | some u =>
   simp only [me,Bool.or_eq_true,decide_eq_true_eq];rw [ih];constructor
   ·rintro (rfl | ⟨p,hp,he⟩)
    ·exact ⟨o,.inl rfl,hd⟩
    ·exact ⟨p,.inr hp,he⟩
   ·rintro ⟨p,rfl | hp,he⟩
    ·rw [hd] at he;cases he;exact .inl rfl
    ·exact .inr ⟨p,hp,he⟩
theorem mg:∀ {l:List Oper},iC l=true->∀ (i j:Nat) (oi oj:Oper) (t:Tmp),l[i]?=some oi->l[j]?=some oj->oi.dst=some t->oj.dst=some t->i=j
 | [],_,i,j,oi,oj,t,hi,_,_,_=>by simp at hi
 | o::os,h,i,j,oi,oj,t,hi,hj,di,dj=>by
  have hos:iC os=true:=by
   simp only [iC] at h
   split at h
   ·rename_i u hu
    cases hb:aB (pZ os) u with
    | true=>rw [hb] at h;cases h
    | false=>rw [hb] at h;exact h
   ·exact h
  have no:∀ (k:Nat) (ok:Oper),os[k]?=some ok->ok.dst=some t->o.dst=some t->False:=by
   intro k ok hk dk d0;simp only [iC,d0] at h;have:aB (pZ os) t=true:=qo.2 ⟨ok,mG hk,dk⟩;rw [this] at h
   cases h
  cases i with
  | zero =>
   simp at hi;subst hi
   cases j with
   | zero=>rfl
   | succ j=>exact (no j oj (by simpa using hj) dj di).elim
  | succ i =>
   cases j with
   | zero=>simp at hj;subst hj;exact (no i oi (by simpa using hi) di dj).elim
   | succ j=>rw [mg hos i j oi oj t (by simpa using hi) (by simpa using hj) di dj]
theorem qp {all:List Oper} {Mk:Nat}:∀ {l:List Oper} {k:Nat},zD all Mk l k=true->∀ (i:Nat) (o:Oper),l[i]?=some o->vK all Mk (k+i) o=true
 | [],_,_,i,o,hi=>by simp at hi
 | p::ps,k,h,i,o,hi=>by
  simp only [zD] at h
  cases hp:vK all Mk k p with
  | false=>rw [hp] at h;cases h
  | true =>
   rw [hp] at h
   cases i with
   | zero=>simp at hi;subst hi;exact hp
   | succ i=>have:=qp (k:=k+1) h i o (by simpa using hi);rw [show k+(i+1)=k+1+i by omega];exact this
theorem kZ {all:List Oper} {t:Tmp}:∀ {es:List Edge},aB (kC all es) t=true->∃ e∈es,Region.binds .any e=true/\∃ o,all[e.on]?=some o/\o.dst=some t
 | [],h=>by simp [kC,cP] at h
 | e::es,h=>by
  simp only [kC] at h
  have hrec:aB (kC all es) t=true->∃ x∈e::es,Region.binds .any x=true/\∃ o,all[x.on]?=some o/\o.dst=some t:=fun h=>by
   obtain ⟨x,hx,r⟩:=kZ h;exact ⟨x,by simp [hx],r⟩
  cases hb:Region.binds .any e with
  | false=>rw [hb] at h;exact hrec h
  | true =>
   rw [hb] at h;simp only [cond_true] at h
   split at h
   ·rename_i o ho
    split at h
    ·rename_i u hu
     rcases ce h with rfl | h
     ·exact ⟨e,by simp,hb,o,ho,hu⟩
     ·exact hrec h
    ·exact hrec h
   ·exact hrec h
theorem nL {Mk Qk:Nat}:∀ {l:List Operand},tmpsIn Mk Qk l=true->∀ t,.tmp t∈l->aB Mk t=true->aB Qk t=true
 | [],_,t,ht,_=>by simp at ht
 | x::l,h,t,ht,hm=>by
  have hrec:tmpsIn Mk Qk l=true:=by
   cases x <;> simp only [tmpsIn] at h <;> try exact h
   rename_i u
   cases h1:aB Mk u <;> cases h2:aB Qk u <;> rw [h1] at h <;> simp only [cond_true,cond_false] at h <;> try exact h
   all_goals (rw [h2] at h;first | exact h | cases h)
  rcases List.mem_cons.1 ht with e | ht
  ·subst e;simp only [tmpsIn,hm,cond_true] at h
   cases h2:aB Qk t with
   | true=>rfl
   | false=>rw [h2] at h;cases h
  ·exact nL hrec t ht hm
theorem sy {t:Tmp}:∀ {l:List Operand},.tmp t∈l->ji t l=true
 | [],h=>by simp at h
 | x::l,h=>by
  rcases List.mem_cons.1 h with e | h
  ·subst e;simp [ji]
  ·have ih:=sy h
   cases x <;> simp only [ji] <;> try exact ih
   rename_i u
   cases Nat.beq u t <;> first | rfl | exact ih
theorem jr {j:Nat}:∀ {es:List Edge},cN j es=true↔∃ e∈es,Region.binds .any e=true/\e.on=j
 | []=>by simp [cN]
 | e::es=>by
  have ih:=jr (j:=j) (es:=es);simp only [cN,List.mem_cons,exists_eq_or_imp]
  cases hb:Region.binds .any e with
  | false=>simp only [cond_false,ih];simp
  | true =>
   cases hj:Nat.beq e.on j with
   | true=>simp only [cond_true,true_iff];exact .inl ⟨trivial,bE hj⟩
   | false =>
    simp only [cond_true,cond_false,ih];constructor
    ·exact .inr
    ·rintro (⟨_,h⟩ | h)
     ·exact absurd h (Nat.ne_of_beq_eq_false hj)
     ·exact h
theorem wh {t:Tmp} {i:Nat}:∀ {l:List Oper} {k:Oper},k∈l->ji t k.op.operands.toList=true->cN i k.after.toList=false->vJ t i l=true
 | [],_,h,_,_=>by simp at h
 | x::l,k,h,h1,h2=>by
  simp only [vJ]
  rcases List.mem_cons.1 h with e | h
  ·subst e;rw [h1,h2];rfl
  ·have ih:=wh h h1 h2
   cases ji t x.op.operands.toList <;> cases cN i x.after.toList <;> first | rfl | exact ih
theorem qq {i:Nat} {t:Tmp}:∀ {l:List Oper},aB (nC i l) t=true->∃ k∈l,cN i k.after.toList=true/\k.dst=some t
 | [],h=>by simp [nC,cP] at h
 | k::ks,h=>by
  simp only [nC] at h
  have hrec:aB (nC i ks) t=true->∃ x∈k::ks,cN i x.after.toList=true/\x.dst=some t:=fun h=>by
   obtain ⟨x,hx,r⟩:=qq h;exact ⟨x,by simp [hx],r⟩
  cases hb:cN i k.after.toList with
  | false=>rw [hb] at h;exact hrec h
  | true =>
   rw [hb] at h;simp only [cond_true] at h
   split at h
   ·rename_i u hu
    rcases ce h with rfl | h
    ·exact ⟨k,by simp,hb,hu⟩
    ·exact hrec h
   ·exact hrec h
theorem EV (a b j:Nat):aB (Nat.lor a b) j=(aB a j || aB b j):=by
 rw [jW,jW,jW];show (a ||| b).testBit j=_;rw [Nat.testBit_or]
theorem EW {ops:Array Oper} (h:okD ops.toList=true):Good ops:=by
 unfold okD at h;rw [Bool.and_eq_true] at h;obtain ⟨h1,h2⟩:=h
 have lst:∀ (i:Nat),ops.toList[i]?=ops[i]?:=fun i=>by simp
 have one:∀ (i:Nat) (o:Oper),ops[i]?=some o->vK ops.toList (pZ ops.toList) i o=true:=fun i o hi=>by
  have:=qp h2 i o (by rw [lst];exact hi)
  simpa using this
 have once:=fun (i j:Nat) (oi oj:Oper) (t:Tmp) (hi:ops[i]?=some oi) (hj:ops[j]?=some oj)=>mg h1 i j oi oj t (by rw [lst];exact hi) (by rw [lst];exact hj);refine ⟨once,fun i o hi=>?_,fun i j o oj t hi ht hj hd=>?_,fun i g o b hi hg=>?_,fun i o cs b hi he=>?_⟩
 ·have:=one i o hi;unfold vK at this;rw [Bool.and_eq_true] at this;intro e he hb;exact Bp.1 this.1 e (by simpa using he) hb
 ·have:=one i o hi;unfold vK at this;rw [Bool.and_eq_true,Bool.and_eq_true] at this;have hm:aB (pZ ops.toList) t=true:=qo.2 ⟨oj,mG (by rw [lst];exact hj),hd⟩;have hq:=nL this.2.1 t (by simpa using ht) hm;rw [EV,Bool.or_eq_true] at hq
  rcases hq with hq | hq
  ·obtain ⟨e,he,hb,o',ho',hd'⟩:=kZ hq;rw [lst] at ho';exact .inl ⟨e,by simpa using he,hb,once _ _ _ _ _ ho' hj hd' hd⟩
  ·obtain ⟨k,hk,hek,hdk⟩:=qq hq;obtain ⟨j',hj'⟩:=List.mem_iff_getElem?.1 hk;rw [lst] at hj';have hjj:=once _ _ _ _ _ hj' hj hdk hd;subst hjj;rw [hj] at hj';cases hj'
   cases hwait:cN j' o.after.toList with
   | true =>
    obtain ⟨e,he,hb,hon⟩:=jr.1 hwait;exact .inl ⟨e,by simpa using he,hb,hon⟩
   | false =>
    obtain ⟨e,he,hb,hon⟩:=jr.1 hek;refine .inr ⟨?_,e,by simpa using he,hb,hon⟩;unfold pX;rw [hd];exact wh (mG (by rw [lst];exact hi)) (sy (by simpa using ht)) hwait
 ·have:=one i o hi;unfold vK at this;rw [Bool.and_eq_true,Bool.and_eq_true,Bool.and_eq_true] at this;have hgi:=this.2.2.1;rw [hg] at hgi;simp only [zC] at hgi
  split at hgi
  ·rename_i og hog;rw [lst] at hog
   split at hgi
   ·rename_i t ht;obtain ⟨e,he,hb,o',ho',hd'⟩:=kZ hgi;rw [lst] at ho';exact ⟨og,t,hog,ht,e,by simpa using he,hb,once _ _ _ _ _ ho' hog hd' ht⟩
   ·cases hgi
  ·cases hgi
 ·have:=one i o hi;unfold vK at this;rw [Bool.and_eq_true,Bool.and_eq_true,Bool.and_eq_true] at this;have hn:=this.2.2.2;rw [he] at hn
  cases hn
theorem qt {A:Nat}:∀ {es:List Edge} {j:Nat},aB (nB A es) j=true->aB A j=true\/∃ e∈es,Region.binds .any e=true/\e.on=j
 | [],j,h=>.inl h
 | e::es,j,h=>by
  simp only [nB] at h
  have hrec:aB (nB A es) j=true->aB A j=true\/∃ x∈e::es,Region.binds .any x=true/\x.on=j:=fun h =>
   (qt h).imp id fun ⟨x,hx,r⟩=>⟨x,by simp [hx],r⟩
  cases hb:Region.binds .any e with
  | false=>rw [hb] at h;exact hrec h
  | true =>
   rw [hb] at h
   rcases ce h with rfl | h
   ·exact .inr ⟨e,by simp,hb,rfl⟩
   ·exact hrec h
theorem sA {A:Nat}:∀ {es:List Edge} {j:Nat},aB A j=true->aB (nB A es) j=true
 | [],_,h=>h
 | e::es,j,h=>by
  have ih:=sA (es:=es) h;simp only [nB]
  cases Region.binds .any e with
  | false=>exact ih
  | true=>exact dh ih
theorem zF {all:List Oper} {A j:Nat} (h:aB A j=true):∀ {l:List Oper} {k:Nat},aB (EQ all l k A) j=true
 | [],_=>h
 | o::os,k=>by
  have ih:=zF h (all:=all) (l:=os) (k:=k+1);simp only [EQ]
  cases aB (EQ all os (k+1) A) k with
  | false=>exact ih
  | true=>exact sA ih
theorem wi {all:List Oper} (S:Nat->Prop) (hS:∀ i o,all[i]?=some o->S i->∀ e∈o.after,Region.binds .any e=true->S e.on):∀ {l:List Oper} {k A:Nat},(∀ i,l[i]?=all[k+i]?)->(∀ j,aB A j=true->S j)->∀ j,aB (EQ all l k A) j=true->S j
 | [],_,_,_,hA,j,h=>hA j h
 | o::os,k,A,hl,hA,j,h=>by
  have ih:=wi S hS (l:=os) (k:=k+1) (A:=A) (fun i=>by have:=hl (i+1);rw [List.getElem?_cons_succ] at this;rw [this];congr 1;omega) hA;simp only [EQ] at h
  cases hb:aB (EQ all os (k+1) A) k with
  | false=>rw [hb] at h;exact ih j h
  | true =>
   rw [hb] at h
   rcases qt h with h | ⟨e,he,hbi,rfl⟩
   ·exact ih j h
   ·exact hS k o (by have:=hl 0;simpa using this.symm) (ih k hb) e (by simpa using he) hbi
theorem nM {D:Nat}:∀ {l:List Oper} {k i:Nat} {o:Oper},l[i]?=some o->aB D (k+i)=false->cr D o.after.toList=true->k+i∈gF D l k
 | [],_,_,_,h,_,_=>by simp at h
 | p::ps,k,i,o,h,hb,hp=>by
  simp only [gF]
  cases i with
  | zero =>
   simp at h;subst h;rw [Nat.add_zero] at hb ⊢;rw [hb,hp];simp
  | succ i =>
   have ih:=nM (k:=k+1) (l:=ps) (i:=i) (o:=o) (by simpa using h) (by rw [show k+1+i=k+(i+1) by omega];exact hb) hp;rw [show k+1+i=k+(i+1) by omega] at ih
   cases aB D k with
   | true=>exact ih
   | false =>
    cases cr D p.after.toList with
    | true=>exact List.mem_cons_of_mem _ ih
    | false=>exact ih
theorem sB {C:Ctx} {all:List Oper} {D A:Nat} {a:T Value} {s:AS}:∀ {l:List Oper} {k:Nat},tQ C all D A a s l k=true->∀ (i:Nat) (o:Oper),l[i]?=some o->aB D (k+i)=true->aB A (k+i)=false->Da C all a s o=true
 | [],_,_,i,o,h,_,_=>by simp at h
 | p::ps,k,h,i,o,hi,hD,hA=>by
  simp only [tQ] at h
  cases i with
  | zero =>
   simp at hi;subst hi;rw [Nat.add_zero] at hD hA;rw [hD,hA] at h
   cases hv:Da C all a s p with
   | true=>rfl
   | false=>rw [hv] at h;cases h
  | succ i =>
   have hr:tQ C all D A a s ps (k+1)=true:=by
    cases h1:aB D k <;> cases h2:aB A k <;> cases h3:Da C all a s p <;> simp [h1,h2,h3] at h <;> exact h
   exact sB hr i o (by simpa using hi) (by rw [show k+1+i=k+(i+1) by omega];exact hD) (by rw [show k+1+i=k+(i+1) by omega];exact hA)
end Go.Proofs.YtgohffhoapkeaaaGreatDoor.Ev
namespace Go.Proofs.YtgohffhoapkeaaaGreatDoor.Ev
open Go.RowKit
variable {ω:Nat->Value}
def qu (C:Ctx) (ops:Array Oper) (D:Nat) (a:T Value) (L:Array Bool) (i:Nat) (o:Oper) (q:AObj) (f:Nat->Value):Prop :=
 ops[i]?=some o/\aB D i=true/\L.getD i false=false/\aX ops.toList o a=true/\ki o.op C a=some (q,f)
structure eZ (C:Ctx) (ops:Array Oper) (N B:Nat) (X0:cK) (D A:Nat) (a:T Value) (s:AS) (L:Array Bool) (act:Act) (w:World) (X:cK) (m:M ω) (γ:Nat->Nat):Prop where
 size:L.size=ops.size
 sub:∀ i,L.getD i false=true->aB D i=true
 down:∀ i o,ops[i]?=some o->L.getD i false=true->∀ e∈o.after,Region.binds .any e=true->L.getD e.on false=true
 downD:∀ i o,ops[i]?=some o->aB D i=true->∀ e∈o.after,Region.binds .any e=true->aB D e.on=true
 must:∀ i,i<ops.size->aB A i=true->L.getD i false=true
 dstN:∀ i o t,ops[i]?=some o->aB D i=true->o.dst=some t->t<N
 tsize:act.tmps.size=N
 tmps:∀ t,(∀ i o,ops[i]?=some o->aB D i=true->o.dst=some t->L.getD i false=true)->VRel m ((a.get t).getD undef) (act.tmps.getD t undef)
 sr:SR B X m s w
 K:X.K=X0.K
 G:∀ b o,X0.G b=some o->X.G b=some o
 al:∀ i o q f,qu C ops D a L i o q f->X.G (γ i)=some q/\X0.G (γ i)=none/\∃ t,o.dst=some t/\a.get t=some (f (γ i))
 inj:∀ i j oi oj qi qj fi fj,qu C ops D a L i oi qi fi->qu C ops D a L j oj qj fj->i≠j->γ i≠γ j
 hB:Bs ω C B w
 late:∀ i o,ops[i]?=some o->pX ops.toList i o=true->aB D i=true->aB A i=true
section
variable {C:Ctx} {ops:Array Oper} {N B:Nat} {X0 X:cK} {D A:Nat} {a a':T Value} {s s':AS} {L:Array Bool} {act:Act} {w:World} {m:M ω} {γ:Nat->Nat} {i:Nat} {o:Oper}
theorem mh {v:Value} {d:Option Tmp} (h:rh N a d v=some a'):(d=none/\a'=a)\/∃ t,d=some t/\t<N/\a'=a.put t v:=by
 cases d with
 | none=>cases h;exact .inl ⟨rfl,rfl⟩
 | some t =>
  have h':Bool.rec (motive:=fun _=>Option (T Value)) none (some (a.put t v)) (Nat.blt t N)=some a':=h
  cases hb:Nat.blt t N with
  | false=>rw [hb] at h';cases h'
  | true=>rw [hb] at h';cases h';rw [Nat.blt_eq] at hb;exact .inr ⟨t,rfl,hb,rfl⟩
theorem sD (hg:Good ops) (hi:ops[i]?=some o) {j:Nat} {oj:Oper} (hj:ops[j]?=some oj) (hno:∀ e∈oj.after,Region.binds .any e=true->e.on≠i) (hnl:pX ops.toList i o=true->∀ e∈o.after,Region.binds .any e=true->e.on≠j) {t:Tmp} (ht:o.dst=some t) (v:Value):Agree oj.op (a.put t v) a:=by
 intro x hx
 cases x with
 | tmp u =>
  have:u≠t:=by
   rintro rfl
   rcases hg.reads j i oj o u hj hx hi ht with ⟨e,he,hb,rfl⟩ | ⟨hl,e,he,hb,rfl⟩
   ·exact hno e he hb rfl
   ·exact hnl hl e he hb rfl
  show jK ((a.put t v).get u)=jK (a.get u);rw [T.get_put,if_neg this]
 | _=>rfl
theorem nN (hg:Good ops) (hi:ops[i]?=some o) {j:Nat} {oj:Oper} (hj:ops[j]?=some oj) (hno:∀ e∈oj.after,Region.binds .any e=true->e.on≠i) {t:Tmp} (ht:o.dst=some t) (v:Value):aX ops.toList oj (a.put t v)=aX ops.toList oj a:=by
 unfold aX
 cases hgd:oj.guard with
 | none=>rfl
 | some gb =>
  obtain ⟨g,b⟩:=gb;obtain ⟨og,d,h1,h2,e,he,hb,hge⟩:=hg.guards j g oj b hj hgd;have hgi:g≠i:=fun hh=>hno e he hb (hge.trans hh);have hd:d≠t:=fun hh=>hgi (hg.once g i og o t h1 hi (by rw [<-hh];exact h2) ht);show gq ops.toList (a.put t v) (g,b)=gq ops.toList a (g,b);simp only [gq,Array.getElem?_toList,h1,h2,T.get_put,if_neg hd]
theorem zG (h:eZ C ops N B X0 D A a s L act w X m γ) (hiD:aB D i=false) {j:Nat} {oj:Oper} (hj:ops[j]?=some oj) (hjD:aB D j=true):∀ e∈oj.after,Region.binds .any e=true->e.on≠i:=fun e he hb hh=>by
 have:=h.downD j oj hj hjD e he hb;rw [hh,hiD] at this;cases this
theorem EX (hg:Good ops) (hi:ops[i]?=some o):∀ e∈o.after,Region.binds .any e=true->e.on≠i:=fun e he hb hh=>by
 have:=hg.ahead i o hi e he hb;omega
theorem eZ.grow (hg:Good ops) (h:eZ C ops N B X0 D A a s L act w X m γ) (hi:ops[i]?=some o) (hiD:aB D i=false) (hp:cr D o.after.toList=true) (hnl:pX ops.toList i o=false) {v:Value} (ha:rh N a o.dst v=some a')
 {X':cK} {γ':Nat->Nat} (hsr:SR B X' m s' w) (hK:X'.K=X.K) (hG:∀ b q,X.G b=some q->X'.G b=some q) (hγ:∀ j,j≠i->γ' j=γ j)
 (hnew:∀ q f,aX ops.toList o a=true->ki o.op C a=some (q,f)->X'.G (γ' i)=some q/\X0.G (γ' i)=none/\(∃ t,o.dst=some t/\a'.get t=some (f (γ' i)))/\∀ b q,X.G b=some q->γ' i≠b) :
 eZ C ops N B X0 (gW D i) A a' s' L act w X' m γ':=by
 have hput:=mh ha
 have hiL:L.getD i false=false:=by
  cases hl:L.getD i false with
  | false=>rfl
  | true=>have:=h.sub i hl;rw [hiD] at this;cases this
 have same:∀ {j:Nat} {oj:Oper},ops[j]?=some oj->(∀ e∈oj.after,Region.binds .any e=true->e.on≠i)->aX ops.toList oj a'=aX ops.toList oj a/\ki oj.op C a'=ki oj.op C a:=by
  intro j oj hj hno
  rcases hput with ⟨_,rfl⟩ | ⟨t,ht,_,rfl⟩
  ·exact ⟨rfl,rfl⟩
  ·exact ⟨nN hg hi hj hno ht v,mc (sD hg hi hj hno (fun h=>by rw [hnl] at h;cases h) ht v)⟩
 have old:∀ {j:Nat} {oj:Oper} {q:AObj} {f:Nat->Value},qu C ops (gW D i) a' L j oj q f->j≠i->qu C ops D a L j oj q f:=by
  rintro j oj q f ⟨h1,h2,h3,h4,h5⟩ hne;have hjD:aB D j=true:=(ce h2).resolve_left hne;obtain ⟨e1,e2⟩:=same h1 (zG h hiD h1 hjD);exact ⟨h1,hjD,h3,by rw [<-e1];exact h4,by rw [<-e2];exact h5⟩
 have selfI:∀ {oj:Oper} {q:AObj} {f:Nat->Value},qu C ops (gW D i) a' L i oj q f->X'.G (γ' i)=some q/\X0.G (γ' i)=none/\(∃ t,oj.dst=some t/\a'.get t=some (f (γ' i)))/\∀ b q,X.G b=some q->γ' i≠b:=by
  rintro oj q f ⟨h1,h2,h3,h4,h5⟩;rw [hi] at h1;cases h1;obtain ⟨e1,e2⟩:=same hi (EX hg hi);exact hnew q f (by rw [<-e1];exact h4) (by rw [<-e2];exact h5)
 have geta:∀ t,o.dst≠some t->a'.get t=a.get t:=by
  intro t ht
  rcases hput with ⟨_,rfl⟩ | ⟨u,hu,_,rfl⟩
  ·rfl
  ·rw [T.get_put,if_neg (fun e=>ht (by rw [e];exact hu))]
 refine ⟨h.size,fun j hj=>dh (h.sub j hj),h.down,?_,h.must,?_,h.tsize,?_,hsr,hK.trans h.K,fun b q hb=>hG b q (h.G b q hb),?_,?_,h.hB,?_⟩
 ·intro j oj hj hjD e he hb
  rcases ce hjD with rfl | hjD
  ·rw [hi] at hj;cases hj;exact dh (nK.1 hp e (by simpa using he) hb)
  ·exact dh (h.downD j oj hj hjD e he hb)
 ·intro j oj t hj hjD ht
  rcases ce hjD with rfl | hjD
  ·rw [hi] at hj;cases hj
   rcases hput with ⟨e,_⟩ | ⟨u,hu,hlt,_⟩
   ·rw [ht] at e;cases e
   ·rw [ht] at hu;cases hu;exact hlt
  ·exact h.dstN j oj t hj hjD ht
 ·intro t hall;rw [geta t (fun e=>by have:=hall i o hi (na _ _) e;rw [hiL] at this;cases this)];exact h.tmps t fun j oj hj hjD=>hall j oj hj (dh hjD)
 ·intro j oj q f hj;by_cases hji:j=i
  ·subst hji;obtain ⟨k1,k2,k3,_⟩:=selfI hj;exact ⟨k1,k2,k3⟩
  ·obtain ⟨k1,k2,t,k3,k4⟩:=h.al j oj q f (old hj hji);rw [hγ j hji];refine ⟨hG _ _ k1,k2,t,k3,?_⟩;rw [geta t (fun e=>hji (hg.once j i oj o t hj.1 hi k3 e))];exact k4
 ·intro j k oj ok qj qk fj fk hj hk hne;by_cases hji:j=i
  ·subst hji;have hk':=old hk (fun e=>hne e.symm);rw [hγ k (fun e=>hne e.symm)];exact (selfI hj).2.2.2 _ _ (h.al k ok qk fk hk').1
  ·by_cases hki:k=i
   ·subst hki;rw [hγ j hji];exact ((selfI hk).2.2.2 _ _ (h.al j oj qj fj (old hj hji)).1).symm
   ·rw [hγ j hji,hγ k hki];exact h.inj j k oj ok qj qk fj fk (old hj hji) (old hk hki) hne
 ·intro j oj hj hl hjD
  rcases ce hjD with rfl | hjD
  ·rw [hi] at hj;cases hj;rw [hnl] at hl;cases hl
  ·exact h.late j oj hj hl hjD
theorem ym (hg:Good ops) (h:eZ C ops N B X0 D A a s L act w X m γ) (hi:ops[i]?=some o) (hiD:aB D i=false) (hp:cr D o.after.toList=true) (hf:pY C N ops.toList i o a s=.took a' s') :
 ∃ X' γ',eZ C ops N B X0 (gW D i) A a' s' L act w X' m γ':=by
 have tk:∀ {v:Value} {s1:AS},zA N a o.dst v s1=.took a' s'->rh N a o.dst v=some a'/\s1=s':=by
  intro v s1 ht;unfold zA at ht
  split at ht
  ·rename_i a1 h1;cases ht;exact ⟨h1,rfl⟩
  ·cases ht
 unfold pY at hf
 cases hnl:pX ops.toList i o with
 | true=>rw [hnl] at hf;cases hf
 | false =>
 rw [hnl] at hf;simp only [cond_false] at hf
 cases hw:aX ops.toList o a with
 | false =>
  rw [hw] at hf;obtain ⟨h1,rfl⟩:=tk hf;exact ⟨X,γ,h.grow hg hi hiD hp hnl h1 h.sr rfl (fun _ _ h=>h) (fun _ _=>rfl) (fun q f hw' _=>by rw [hw] at hw';cases hw')⟩
 | true =>
  rw [hw] at hf;simp only [cond_true] at hf
  cases hal:ki o.op C a with
  | some al =>
   obtain ⟨q,f⟩:=al;rw [hal] at hf;simp only at hf
   cases hd:o.dst with
   | none=>rw [hd] at hf;cases hf
   | some t =>
    rw [hd] at hf;simp only [Option.isSome_some,cond_true,mX,oE] at hf;rw [<-hd] at hf;obtain ⟨h1,rfl⟩:=tk hf
    have fresh:∀ b q,X.G b=some q->s.n≠b:=fun b q hb e=>by
     have:=(h.sr.gh b q hb).1;rw [<-e,h.sr.freshH s.n (nR _)] at this;cases this
    refine ⟨X.add s.n q,fun j=>if j=i then s.n else γ j,h.grow hg hi hiD hp hnl h1 (nD h.sr q) rfl (fun b p hb=>?_) (fun j hj=>by simp [hj]) (fun q' f' _ hal'=>?_)⟩
    ·simp [cK.add,(fresh b p hb).symm,hb]
    ·rw [hal] at hal';cases hal';refine ⟨by simp [cK.add],?_,⟨t,hd,?_⟩,fun b p hb=>by simpa using fresh b p hb⟩
     ·simp only [if_true]
      cases h0:X0.G s.n with
      | none=>rfl
      | some p=>exact absurd rfl (fresh s.n p (h.G _ _ h0))
     ·rcases mh h1 with ⟨e,_⟩ | ⟨u,hu,_,rfl⟩
      ·rw [hd] at e;cases e
      ·rw [hd] at hu;cases hu;rw [T.get_put,if_pos rfl];simp
  | none =>
   rw [hal] at hf;simp only at hf
   cases hst:pW C o.op with
   | false=>rw [hst] at hf;cases hf
   | true =>
    rw [hst] at hf;simp only [cond_true,oE] at hf
    split at hf
    ·rename_i v s1 hao;obtain ⟨rfl,_⟩:=qg hst hal hao;obtain ⟨h1,rfl⟩:=tk hf;exact ⟨X,γ,h.grow hg hi hiD hp hnl h1 h.sr rfl (fun _ _ h=>h) (fun _ _=>rfl) (fun q f _ hal'=>by rw [hal] at hal';cases hal')⟩
    ·cases hf
theorem gg (hg:Good ops):∀ {l:List Oper} {k D D':Nat} {a a':T Value} {s s':AS} {X:cK} {γ:Nat->Nat},(∀ i,l[i]?=ops[k+i]?)->eZ C ops N B X0 D A a s L act w X m γ->pass C N ops.toList l k D a s=some (D',a',s') ->
 ∃ X' γ',eZ C ops N B X0 D' A a' s' L act w X' m γ'
 | [],_,D,_,a,_,s,_,X,γ,_,h,hp=>by cases hp;exact ⟨X,γ,h⟩
 | o::os,k,D,D',a,a',s,s',X,γ,hl,h,hp=>by
  have hl':∀ i,os[i]?=ops[k+1+i]?:=fun i=>by have:=hl (i+1);rw [List.getElem?_cons_succ] at this;rw [this];congr 1;omega
  have ho:ops[k]?=some o:=by have:=hl 0;simpa using this.symm
  simp only [pass] at hp
  cases hb:aB D k with
  | true=>rw [hb] at hp;exact gg hg hl' h hp
  | false =>
   rw [hb] at hp;simp only [cond_false] at hp
   cases hpr:cr D o.after.toList with
   | false=>rw [hpr] at hp;exact gg hg hl' h hp
   | true =>
    rw [hpr] at hp;simp only [cond_true] at hp
    split at hp
    ·exact gg hg hl' h hp
    ·cases hp
    ·rename_i a1 s1 hf;obtain ⟨X1,γ1,h1⟩:=ym hg h ho hb hpr hf;exact gg hg hl' h1 hp
end
end Go.Proofs.YtgohffhoapkeaaaGreatDoor.Ev
namespace Go.Proofs.YtgohffhoapkeaaaGreatDoor.Ev
open Go.RowKit
variable {ω:Nat->Value}
def Eb (ops:Array Oper) (D:Nat) (L:Array Bool):List Tmp:=(List.range ops.size).filterMap fun i=>if L.getD i false || !aB D i then none else (ops[i]?).bind (·.dst)
noncomputable def yn (a:T Value):List Tmp->T Value
 | []=>a
 | t::ts=>(yn a ts).put t undef
def lg (act:Act):List Tmp->Act
 | []=>act
 | t::ts=>(lg act ts).put (some t) undef
section
variable {C:Ctx} {ops:Array Oper} {N B:Nat} {X0 X:cK} {D A:Nat} {a a':T Value} {s s':AS} {L:Array Bool} {act:Act} {w:World} {m:M ω} {γ:Nat->Nat} {i:Nat} {o:Oper} {ih:bL}
theorem zH {t:Tmp}:t∈Eb ops D L↔∃ i o,ops[i]?=some o/\L.getD i false=false/\aB D i=true/\o.dst=some t:=by
 unfold Eb;rw [List.mem_filterMap];constructor
 ·rintro ⟨i,hi,h⟩
  cases hl:L.getD i false with
  | true=>rw [hl] at h;simp at h
  | false =>
   cases hD:aB D i with
   | false=>rw [hl,hD] at h;simp at h
   | true =>
   rw [hl,hD] at h;simp only [Bool.not_true,Bool.or_self,Bool.false_eq_true,if_false] at h
   cases ho:ops[i]? with
   | none=>rw [ho] at h;cases h
   | some o=>rw [ho] at h;exact ⟨i,o,ho,hl,hD,h⟩
 ·rintro ⟨i,o,ho,hl,hD,hd⟩;refine ⟨i,List.mem_range.2 (aS.1 ho).1,?_⟩;rw [hl,hD,ho];simpa using hd
theorem qv (t:Tmp):∀ (ts:List Tmp),(yn a ts).get t=if t∈ts then some undef else a.get t
 | []=>by simp [yn]
 | u::ts=>by
  rw [yn,T.get_put,qv t ts];by_cases h:t=u
  ·rw [if_pos h,if_pos (by simp [h])]
  ·rw [if_neg h];by_cases h2:t∈ts
   ·rw [if_pos h2,if_pos (by simp [h2])]
   ·rw [if_neg h2,if_neg (by simp [h,h2])]
theorem nc:∀ (ts:List Tmp),(lg act ts).tmps.size=act.tmps.size
 | []=>rfl
 | t::ts=>by rw [lg];simp [Act.put,nc ts]
theorem mi (t:Tmp):∀ (ts:List Tmp),(lg act ts).tmps.getD t undef=if t∈ts then undef else act.tmps.getD t undef
 | []=>by simp [lg]
 | u::ts=>by
  rw [lg];show ((lg act ts).tmps.setIfInBounds u undef).getD t undef=_;by_cases hu:u<(lg act ts).tmps.size
  ·rw [wc _ _ _ _ hu,mi t ts];by_cases h:t=u
   ·rw [if_pos h,if_pos (by simp [h])]
   ·rw [if_neg h];by_cases h2:t∈ts
    ·rw [if_pos h2,if_pos (by simp [h2])]
    ·rw [if_neg h2,if_neg (by simp [h,h2])]
  ·have e:(lg act ts).tmps.setIfInBounds u undef=(lg act ts).tmps:=by
    apply Array.ext
    ·simp
    ·intro k h1 h2;rw [Array.getElem_setIfInBounds_ne (by simpa using h2) (by rintro rfl;exact hu h2)]
   rw [e,mi t ts];by_cases h:t=u
   ·subst h;rw [if_pos (show t∈t::ts by simp)];by_cases h2:t∈ts
    ·rw [if_pos h2]
    ·rw [if_neg h2];have:=nc (act:=act) ts;rw [this] at hu;simp [Array.getElem?_eq_none (Nat.le_of_not_lt hu)]
   ·by_cases h2:t∈ts
    ·rw [if_pos h2,if_pos (by simp [h2])]
    ·rw [if_neg h2,if_neg (by simp [h,h2])]
theorem masked (h:eZ C ops N B X0 D A a s L act w X m γ):TR m N (yn a (Eb ops D L)) (lg act (Eb ops D L)):=by
 refine ⟨by rw [nc];exact h.tsize,fun t=>?_⟩;rw [qv,mi];by_cases ht:t∈Eb ops D L
 ·rw [if_pos ht,if_pos ht];exact gZ
 ·rw [if_neg ht,if_neg ht];refine h.tmps t fun i o hi hD hd=>?_
  cases hl:L.getD i false with
  | true=>rfl
  | false=>exact absurd (zH.2 ⟨i,o,hi,hl,hD,hd⟩) ht
theorem nO (hg:Good ops) (h:eZ C ops N B X0 D A a s L act w X m γ) (hi:ops[i]?=some o) (hp:∀ e∈o.after,Region.binds .any e=true->L.getD e.on false=true) {t:Tmp} (ht:.tmp t∈o.op.operands):t∉Eb ops D L:=by
 intro hu;obtain ⟨j,oj,hj,hl,hD,hd⟩:=zH.1 hu
 rcases hg.reads i j o oj t hi ht hj hd with ⟨e,he,hb,rfl⟩ | ⟨hlt,_⟩
 ·rw [hp e he hb] at hl;cases hl
 ·rw [h.must j (aS.1 hj).1 (h.late j oj hj hlt hD)] at hl;cases hl
theorem js (hg:Good ops) (h:eZ C ops N B X0 D A a s L act w X m γ) (hi:ops[i]?=some o) (hp:∀ e∈o.after,Region.binds .any e=true->L.getD e.on false=true):Agree o.op (yn a (Eb ops D L)) a:=by
 intro x hx
 cases x with
 | tmp t =>
  show jK ((yn a (Eb ops D L)).get t)=jK (a.get t);rw [qv,if_neg (nO hg h hi hp hx)]
 | _=>rfl
theorem qw (hg:Good ops) (h:eZ C ops N B X0 D A a s L act w X m γ) (hi:ops[i]?=some o) (hp:∀ e∈o.after,Region.binds .any e=true->L.getD e.on false=true):execOp act.eval o=execOp (lg act (Eb ops D L)).eval o:=by
 refine execOp_congr o (fun cs b=>hg.nosel i o cs b hi) fun x hx=>?_
 cases x with
 | tmp t =>
  show act.tmps.getD t undef=(lg act (Eb ops D L)).tmps.getD t undef;rw [mi,if_neg (nO hg h hi hp hx)]
 | _ =>
  have:∀ ts,(lg act ts).eval=fun x=>match x with | .tmp t=>(lg act ts).tmps.getD t undef | x=>act.eval x:=by
   intro ts
   funext x
   cases x <;> rfl
  rw [this]
theorem EZ {v:Value} {b:Bool} (h:VRel m v (.bool b)) (hc:isChan v=false):v=.bool b:=by
 generalize hy:Value.bool b=y at h
 cases h <;> first | (cases hc;done) | (cases hy;done) | rfl
theorem nP {tm:Array Value} (hgb:em ops.toList o a=true) (hgd:∀ g b og t,o.guard=some (g,b)->ops[g]?=some og->og.dst=some t->VRel m ((a.get t).getD undef) (tm.getD t undef)) :
 Region.wanted o (yielded ops tm)=aX ops.toList o a:=by
 unfold Region.wanted aX
 cases hg:o.guard with
 | none=>rfl
 | some gb =>
  obtain ⟨g,b⟩:=gb;show (yielded ops tm g==some b)=gq ops.toList a (g,b)
  cases h1:ops[g]? with
  | none=>simp [gq,h1,yielded]
  | some og =>
  cases h2:og.dst with
  | none=>simp [gq,h1,h2,yielded]
  | some t =>
  have hv:=hgd g b og t hg h1 h2;simp only [gq,Array.getElem?_toList,h1,h2,yielded,Option.bind_some]
  cases hx:tm[t]? with
  | none =>
   have e:tm.getD t undef=undef:=by simp [hx]
   rw [e] at hv;simp only []
   split
   ·rename_i c hc;rw [hc] at hv;have:=p8 hv
    cases this
   ·rfl
  | some x =>
   have e:tm.getD t undef=x:=by simp [hx]
   rw [e] at hv;by_cases hb:∃ c,x=.bool c
   ·obtain ⟨c,rfl⟩:=hb
    have hc0:isChan ((a.get t).getD undef)=false:=by
     unfold em at hgb;rw [hg] at hgb;have hgb':xY ops.toList a (g,b)=true:=hgb;simp only [xY,Array.getElem?_toList,h1,h2] at hgb'
     cases ha:a.get t with
     | none=>rfl
     | some z=>rw [ha] at hgb';cases z <;> first | rfl | cases hgb'
    have:=EZ hv hc0
    cases ha:a.get t with
    | none=>rw [ha] at this;cases this
    | some y =>
     rw [ha] at this;have hy:y=.bool c:=this;subst hy
     cases b <;> cases c <;> rfl
   ·cases x <;> first
     | (exact absurd ⟨_,rfl⟩ hb)
     | (
      dsimp only
      split
      ·rename_i c hc;rw [hc] at hv;exact absurd ⟨c,p8 hv⟩ hb
      ·rfl)
theorem mj (hg:Good ops) (h:eZ C ops N B X0 D A a s L act w X m γ) (hi:ops[i]?=some o) (hp:∀ e∈o.after,Region.binds .any e=true->L.getD e.on false=true) (hgb:em ops.toList o a=true):Region.wanted o (yielded ops act.tmps)=aX ops.toList o a:=by
 refine nP (m:=m) hgb fun g b og t hgd h1 h2=>?_;obtain ⟨_,_,_,_,e,he,hb,rfl⟩:=hg.guards i g o b hi hgd;refine h.tmps t fun j oj hj _ hd=>?_;rw [hg.once j e.on oj og t hj h1 hd h2];exact hp e he hb
theorem cf {L:Array Bool} {i j:Nat} (hi:i<L.size):(L.setIfInBounds i true).getD j false=if j=i then true else L.getD j false:=by
 by_cases h:j=i
 ·subst h;simp [hi]
 ·rw [if_neg h];simp only [Array.getD_eq_getD_getElem?,Array.getElem?_setIfInBounds_ne (fun e=>h e.symm)]
theorem jz {d:Option Tmp} {v:Value} {t:Tmp} (ht:t<act.tmps.size):(act.put d v).tmps.getD t undef=if d=some t then v else act.tmps.getD t undef:=by
 cases d with
 | none=>simp [Act.put]
 | some u =>
  show (act.tmps.setIfInBounds u v).getD t undef=_;by_cases h:u=t
  ·subst h;simp [ht]
  ·rw [if_neg (fun e=>h (by cases e;rfl))];simp only [Array.getD_eq_getD_getElem?,Array.getElem?_setIfInBounds_ne h]
theorem lh {d:Option Tmp} {v:Value} {t:Tmp} (h:d≠some t):(act.put d v).tmps.getD t undef=act.tmps.getD t undef:=by
 cases d with
 | none=>rfl
 | some u =>
  show (act.tmps.setIfInBounds u v).getD t undef=_;simp only [Array.getD_eq_getD_getElem?,Array.getElem?_setIfInBounds_ne (show u≠t from fun e=>h (by rw [e]))]
theorem qy {d:Option Tmp} {v:Value}:(act.put d v).tmps.size=act.tmps.size:=by cases d <;> simp [Act.put]
theorem put_defers {d:Option Tmp} {v:Value}:(act.put d v).defers=act.defers:=by cases d <;> rfl
theorem eZ.list (hg:Good ops) (h:eZ C ops N B X0 D A a s L act w X m γ) (hi:ops[i]?=some o) (hD:aB D i=true) (hp:∀ e∈o.after,Region.binds .any e=true->L.getD e.on false=true)
 {X':cK} {m':M ω} {w':World} {v':Value} (hle:Le m m') (hsr:SR B X' m' s w') (hK:X'.K=X.K) (hG:∀ b q,X0.G b=some q->X'.G b=some q) (hGγ:∀ j oj q f,qu C ops D a L j oj q f->j≠i->X'.G (γ j)=some q)
 (hv:∀ t,o.dst=some t->VRel m' ((a.get t).getD undef) v') (hb:Below B w w'):eZ C ops N B X0 D A a s (L.setIfInBounds i true) (act.put o.dst v') w' X' m' γ:=by
 have hlt:i<L.size:=by rw [h.size];exact (aS.1 hi).1
 have old:∀ {j:Nat} {oj:Oper} {q:AObj} {f:Nat->Value},qu C ops D a (L.setIfInBounds i true) j oj q f->qu C ops D a L j oj q f/\j≠i:=by
  rintro j oj q f ⟨h1,h2,h3,h4,h5⟩;rw [cf hlt] at h3;by_cases hji:j=i
  ·rw [if_pos hji] at h3;cases h3
  ·rw [if_neg hji] at h3;exact ⟨⟨h1,h2,h3,h4,h5⟩,hji⟩
 refine ⟨by simpa using h.size,?_,?_,h.downD,?_,h.dstN,by rw [qy];exact h.tsize,?_,hsr,hK.trans h.K,hG,?_,?_,h.hB.next hb,h.late⟩
 ·intro j hj;rw [cf hlt] at hj;by_cases hji:j=i
  ·rw [hji];exact hD
  ·rw [if_neg hji] at hj;exact h.sub j hj
 ·intro j oj hj hl e he hbi;rw [cf hlt] at hl ⊢;by_cases hee:e.on=i
  ·rw [if_pos hee]
  ·rw [if_neg hee];by_cases hji:j=i
   ·subst hji;rw [hi] at hj;cases hj;exact hp e he hbi
   ·rw [if_neg hji] at hl;exact h.down j oj hj hl e he hbi
 ·intro j hj hA;rw [cf hlt];by_cases hji:j=i
  ·rw [if_pos hji]
  ·rw [if_neg hji];exact h.must j hj hA
 ·intro t hall;by_cases hd:o.dst=some t
  ·rw [jz (by rw [h.tsize];exact h.dstN i o t hi hD hd),if_pos hd];exact hv t hd
  ·rw [lh hd];refine (h.tmps t fun j oj hj hjD hdj=>?_).mono hle;have:=hall j oj hj hjD hdj;rw [cf hlt] at this;by_cases hji:j=i
   ·subst hji;rw [hi] at hj;cases hj;exact absurd hdj hd
   ·rwa [if_neg hji] at this
 ·intro j oj q f hj;obtain ⟨h1,h2⟩:=old hj;obtain ⟨k1,k2,k3⟩:=h.al j oj q f h1;exact ⟨hGγ j oj q f h1 h2,k2,k3⟩
 ·intro j k oj ok qj qk fj fk hj hk hne;exact h.inj j k oj ok qj qk fj fk (old hj).1 (old hk).1 hne
theorem Bq (hC:uJ ω C) (hg:Good ops) (h:eZ C ops N B X0 D A a s L act w X m γ) (hver:tQ C ops.toList D A a s ops.toList 0=true) (hi:ops[i]?=some o) (hD:aB D i=true) (hL:L.getD i false=false)
 (hp:∀ e∈o.after,Region.binds .any e=true->L.getD e.on false=true) {q:Bool} {F:Fence} (hF:lq q F) {n:Nat} {K:Act->World->Prop} {Q:Exit->Act->World->Prop}
 (hK:∀ act' w' X' m',eZ C ops N B X0 D A a s (L.setIfInBounds i true) act' w' X' m' γ->Le m m'->Below B w w'->act'.defers=act.defers->K act' w'):wpOpIn F n C.P ops Q i K act w:=by
 have hA:aB A i=false:=by
  cases hb:aB A i with
  | false=>rfl
  | true=>rw [h.must i (aS.1 hi).1 hb] at hL;cases hL
 have hv:=sB hver i o (by simpa using hi) (by simpa using hD) (by simpa using hA);unfold Da at hv
 cases hgb:em ops.toList o a with
 | false=>rw [hgb] at hv;cases hv
 | true =>
 rw [hgb] at hv;simp only [cond_true] at hv;unfold wpOpIn;rw [hi];simp only [];rw [mj hg h hi hp hgb];have hT:=masked h
 cases hw:aX ops.toList o a with
 | false =>
  rw [hw] at hv;simp only [cond_false] at hv;rw [if_neg (by simp)];refine ⟨fun f _=>hF.fn f,hK _ _ X m (h.list hg hi hD hp (Le.refl _) h.sr rfl h.G (fun j oj q f hj _=>(h.al j oj q f hj).1) (fun t ht=>?_) (bR _ _)) (Le.refl _) (bR _ _) put_defers⟩;rw [nJ hv ht];exact gZ
 | true =>
  rw [hw] at hv;simp only [cond_true] at hv;rw [if_pos rfl]
  have hnd:∀ c,o.op≠.defer c:=by
   intro c hd;rw [hd] at hv;simp only [ki,C6,wT] at hv;rw [hd] at hv;simp only [xX,jh] at hv
   cases hv
  refine ⟨fun f _=>hF.fn f,?_⟩;rw [Oper.semAt_eq _ _ _ hnd,qw hg h hi hp]
  cases hal:ki o.op C a with
  | some al =>
   obtain ⟨p,f⟩:=al;obtain ⟨k1,k2,t,k3,k4⟩:=h.al i o p f ⟨hi,hD,hL,hw,hal⟩;obtain ⟨v',w1,inf,hr,e1,e2,e3,e4,e5,e6⟩:=Di hC.ok hT h.hB.le (o:=o) (q:=p) (f:=f) (by rw [mc (js hg h hi hp)];exact hal);rw [hr];obtain ⟨g1,g2⟩:=p6 h.sr k1 inf h.hB.le e1 e2 e3 e5;refine hK _ _ (X.del (γ i)) _ (h.list hg hi hD hp g2 g1 rfl (fun b x hx=>?_) (fun j oj x fx hj hji=>?_) (fun u hu=>?_) e4) g2 e4 put_defers
   ·show (if b=γ i then none else X.G b)=some x;rw [if_neg (fun e=>by rw [e,k2] at hx;cases hx)];exact h.G b x hx
   ·show (if γ j=γ i then none else X.G (γ j))=some x;rw [if_neg (h.inj j i oj o x p fx f hj ⟨hi,hD,hL,hw,hal⟩ hji)];exact (h.al j oj x fx hj).1
   ·rw [k3] at hu;cases hu;rw [k4];exact e6 _ _ (ba _ _ _)
  | none =>
   rw [hal] at hv;simp only at hv
   split at hv
   ·rename_i v s1 hao
    cases hst:pW C o.op with
    | false=>rw [hst] at hv;cases hv
    | true =>
     rw [hst] at hv;simp only [cond_true] at hv;obtain ⟨rfl,_⟩:=qg hst hal hao;have hsnd:=su hC.ok h.sr hT h.hB (o:=o) (by rw [sv (js hg h hi hp)];exact hao);obtain ⟨nx,w',m',hr,hle,hs',hb,hrr⟩:=hsnd;rw [hr]
     cases nx <;> first | (exact hrr.elim;done) | skip
     rename_i v';refine hK _ _ X m' (h.list hg hi hD hp hle hs' rfl h.G (fun j oj q f hj _=>(h.al j oj q f hj).1) (fun t ht=>?_) hb) hle hb put_defers;rw [nJ hv ht];exact hrr
   ·cases hv
theorem eZ.both (hg:Good ops) (h:eZ C ops N B X0 D A a s L act w X m γ) (hi:ops[i]?=some o) (hiD:aB D i=false) (hp:∀ e∈o.after,Region.binds .any e=true->L.getD e.on false=true)
 {v:Value} (ha:rh N a o.dst v=some a') {m':M ω} {w':World} {v':Value} (hle:Le m m') (hsr:SR B X m' s' w') (hv:VRel m' v v') (hb:Below B w w') :
 eZ C ops N B X0 (gW D i) (EQ ops.toList ops.toList 0 (gW A i)) a' s' (L.setIfInBounds i true) (act.put o.dst v') w' X m' γ:=by
 have hput:=mh ha
 have hlt:i<L.size:=by rw [h.size];exact (aS.1 hi).1
 have hdown:∀ j oj,ops[j]?=some oj->(L.setIfInBounds i true).getD j false=true->∀ e∈oj.after,Region.binds .any e=true->(L.setIfInBounds i true).getD e.on false=true:=by
  intro j oj hj hl e he hbi;rw [cf hlt] at hl ⊢;by_cases hee:e.on=i
  ·rw [if_pos hee]
  ·rw [if_neg hee];by_cases hji:j=i
   ·subst hji;rw [hi] at hj;cases hj;exact hp e he hbi
   ·rw [if_neg hji] at hl;exact h.down j oj hj hl e he hbi
 have geta:∀ t,o.dst≠some t->a'.get t=a.get t:=by
  intro t ht
  rcases hput with ⟨_,rfl⟩ | ⟨u,hu,_,rfl⟩
  ·rfl
  ·rw [T.get_put,if_neg (fun e=>ht (by rw [e];exact hu))]
 have old:∀ {j:Nat} {oj:Oper} {q:AObj} {f:Nat->Value},qu C ops (gW D i) a' (L.setIfInBounds i true) j oj q f->qu C ops D a L j oj q f/\j≠i:=by
  rintro j oj q f ⟨h1,h2,h3,h4,h5⟩;rw [cf hlt] at h3;by_cases hji:j=i
  ·rw [if_pos hji] at h3;cases h3
  ·rw [if_neg hji] at h3;have hjD:aB D j=true:=(ce h2).resolve_left hji;have hno:=zG h hiD h1 hjD;refine ⟨⟨h1,hjD,h3,?_,?_⟩,hji⟩
   ·rcases hput with ⟨_,rfl⟩ | ⟨t,ht,_,rfl⟩
    ·exact h4
    ·rwa [nN hg hi h1 hno ht v] at h4
   ·rcases hput with ⟨_,rfl⟩ | ⟨t,ht,_,rfl⟩
    ·exact h5
    ·rwa [mc (sD hg hi h1 hno (fun _ e he hb hh=>by rw [<-hh,hp e he hb] at h3;cases h3) ht v)] at h5
 refine ⟨by simpa using h.size,?_,hdown,?_,?_,?_,by rw [qy];exact h.tsize,?_,hsr,h.K,h.G,?_,?_,h.hB.next hb,?_⟩
 ·intro j hj;rw [cf hlt] at hj;by_cases hji:j=i
  ·rw [hji];exact na _ _
  ·rw [if_neg hji] at hj;exact dh (h.sub j hj)
 ·intro j oj hj hjD e he hbi
  rcases ce hjD with rfl | hjD
  ·rw [hi] at hj;cases hj;exact dh (h.sub _ (hp e he hbi))
  ·exact dh (h.downD j oj hj hjD e he hbi)
 ·intro j hj hA;refine wi (all:=ops.toList) (fun j=>j<ops.size->(L.setIfInBounds i true).getD j false=true) ?_ (l:=ops.toList) (k:=0) (A:=gW A i) (fun i=>by simp) ?_ j hA hj
  ·intro j oj hj hS e he hbi hlt'
   have hj':ops[j]?=some oj:=by simpa using hj
   exact hdown j oj hj' (hS (aS.1 hj').1) e he hbi
  ·intro j hj hlt';rw [cf hlt]
   rcases ce hj with rfl | hj
   ·rw [if_pos rfl]
   ·by_cases hji:j=i
    ·rw [if_pos hji]
    ·rw [if_neg hji];exact h.must j hlt' hj
 ·intro j oj t hj hjD ht
  rcases ce hjD with rfl | hjD
  ·rw [hi] at hj;cases hj
   rcases hput with ⟨e,_⟩ | ⟨u,hu,hlt,_⟩
   ·rw [ht] at e;cases e
   ·rw [ht] at hu;cases hu;exact hlt
  ·exact h.dstN j oj t hj hjD ht
 ·intro t hall;by_cases hd:o.dst=some t
  ·rcases hput with ⟨e,_⟩ | ⟨u,hu,hlt2,rfl⟩
   ·rw [hd] at e;cases e
   ·rw [hd] at hu;cases hu;rw [jz (by rw [h.tsize];exact hlt2),if_pos hd,T.get_put,if_pos rfl];exact hv
  ·rw [lh hd,geta t hd];refine (h.tmps t fun j oj hj hjD hdj=>?_).mono hle;have:=hall j oj hj (dh hjD) hdj;rw [cf hlt] at this;by_cases hji:j=i
   ·subst hji;rw [hi] at hj;cases hj;exact absurd hdj hd
   ·rwa [if_neg hji] at this
 ·intro j oj q f hj;obtain ⟨h1,h2⟩:=old hj;obtain ⟨k1,k2,t,k3,k4⟩:=h.al j oj q f h1;exact ⟨k1,k2,t,k3,by rw [geta t (fun e=>h2 (hg.once j i oj o t h1.1 hi k3 e))];exact k4⟩
 ·intro j k oj ok qj qk fj fk hj hk hne;exact h.inj j k oj ok qj qk fj fk (old hj).1 (old hk).1 hne
 ·intro j oj hj hl hjD;refine zF ?_
  rcases ce hjD with rfl | hjD
  ·exact na _ _
  ·exact dh (h.late j oj hj hl hjD)
end
end Go.Proofs.YtgohffhoapkeaaaGreatDoor.Ev
namespace Go.Proofs.YtgohffhoapkeaaaGreatDoor.Ev
open Go.RowKit
variable {ω:Nat->Value}
def Dk (ω:Nat->Value) (C:Ctx) (ih:bL):Prop:=∀ (N:Nat) (ops:Array Oper) (D A:Nat) (a:T Value) (s:AS) (af:T Value) (sf:AS),Good ops->ih.d N ops.toList D A a s=some (af,sf) ->
 ∀ (q:Bool) (F:Fence) (n:Nat) (Q:Exit->Act->World->Prop) (B:Nat) (X0:cK) (L:Array Bool) (act:Act) (w:World) (X:cK) (m:M ω) (γ:Nat->Nat) (fuel:Nat),lq q F->eZ C ops N B X0 D A a s L act w X m γ->L.toList.count false<=fuel ->
 (∀ act' w' m',Le m m'->SR B X0 m' sf w'->TR m' N af act'->act'.defers=act.defers->Below B w w'->Q .normal act' w')->wpAnyIn F n C.P .any ops Q fuel L act w
def E2 (ω:Nat->Value) (C:Ctx) (ih:bL):Prop:=∀ (N:Nat) (ops:Array Oper) (k:Nat) (os:List Oper) (a:T Value) (s:AS) (af:T Value) (sf:AS),(∀ i,os[i]?=ops[k+i]?)->ih.o N ops.toList os a s=some (af,sf) ->
 ∀ (q:Bool) (F:Fence) (n:Nat) (Q:Exit->Act->World->Prop) (B:Nat) (X:cK) (m:M ω) (act:Act) (w:World),lq q F->SR B X m s w->TR m N a act->Bs ω C B w ->
 (∀ act' w' m',Le m m'->SR B X m' sf w'->TR m' N af act'->act'.defers=act.defers->Below B w w'->Q .normal act' w')->wpOpsIn F n C.P ops Q ((List.range ops.size).drop k) act w
theorem qz {D:Nat}:∀ {l:List Oper} {k j:Nat},j∈gF D l k->aB D j=false/\∃ i,j=k+i/\i<l.length
 | [],_,_,h=>by simp [gF] at h
 | o::os,k,j,h=>by
  have hrec:j∈gF D os (k+1)->aB D j=false/\∃ i,j=k+i/\i<(o::os).length:=fun h=>by
   obtain ⟨h1,i,h2,h3⟩:=qz h;exact ⟨h1,i+1,by omega,by simp;omega⟩
  simp only [gF] at h
  cases hb:aB D k with
  | true=>rw [hb] at h;exact hrec h
  | false =>
   rw [hb] at h;simp only [cond_false] at h
   cases hp:cr D o.after.toList with
   | false=>rw [hp] at h;exact hrec h
   | true =>
    rw [hp] at h
    rcases List.mem_cons.1 h with rfl | h
    ·exact ⟨hb,0,by omega,by simp⟩
    ·exact hrec h
theorem count_set {L:Array Bool} {i:Nat} (hi:i<L.size) (hL:L.getD i false=false):(L.setIfInBounds i true).toList.count false+1=L.toList.count false:=by
 rw [Array.toList_setIfInBounds,List.count_set (by simpa using hi)]
 have he:L.toList[i]'(by simpa using hi)=false:=by
  have:L.getD i false=L.toList[i]'(by simpa using hi):=by simp [hi]
  rw [<-this];exact hL
 have hpos:0<L.toList.count false:=List.count_pos_iff.2 (he ▸ List.getElem_mem _);rw [he];show L.toList.count false-(if (false==false)=true then 1 else 0)+(if (true==false)=true then 1 else 0)+1=_;rw [if_pos (by decide),if_neg (by decide)];omega
section
variable {C:Ctx} {ops:Array Oper} {N B:Nat} {X0 X:cK} {D A:Nat} {a a':T Value} {s s':AS} {L:Array Bool} {act:Act} {w:World} {m:M ω} {γ:Nat->Nat} {ih:bL}
theorem full (hg:Good ops) (hs:L.size=ops.size) (hr:Region.ready .any ops L=[]):∀ i,i<ops.size->L.getD i false=true:=by
 intro i
 induction i using Nat.strongRecOn with
 | _ i ih =>
  intro hi
  cases hl:L.getD i false with
  | true=>rfl
  | false =>
   exfalso;have ho:ops[i]?=some ops[i]:=Array.getElem?_eq_getElem hi
   have:i∈Region.ready .any ops L:=mem_ready.2 ⟨by rw [<-hl];simp [show i<L.size by omega],_,ho,fun e he hb=>by
    have:=hg.ahead i _ ho e he hb
    exact ih e.on this (by omega)⟩
   rw [hr] at this;cases this
theorem uf (hC:uJ ω C) (hc:rn ω C ih) (hf:wb ω C ih) (hd:Dk ω C ih) (hg:Good ops) {af:T Value} {sf:AS} (h:Dd C ih N ops.toList D A a s=some (af,sf)) {q:Bool} {F:Fence} (hF:lq q F) {n:Nat} {Q:Exit->Act->World->Prop} :
 ∀ (fuel:Nat) (L:Array Bool) (act:Act) (w:World) (X:cK) (m:M ω),eZ C ops N B X0 D A a s L act w X m γ->L.toList.count false<=fuel ->
 (∀ act' w' m',Le m m'->SR B X0 m' sf w'->TR m' N af act'->act'.defers=act.defers->Below B w w'->Q .normal act' w')->wpAnyIn F n C.P .any ops Q fuel L act w:=by
 unfold Dd at h
 cases hver:tQ C ops.toList D A a s ops.toList 0 with
 | false=>rw [hver] at h;cases h
 | true =>
 rw [hver] at h;simp only [cond_true] at h
 have fin:∀ (L:Array Bool) (act:Act) (w:World) (X:cK) (m:M ω),eZ C ops N B X0 D A a s L act w X m γ->(∀ i,i<ops.size->L.getD i false=true) ->
  (∀ act' w' m',Le m m'->SR B X0 m' sf w'->TR m' N af act'->act'.defers=act.defers->Below B w w'->Q .normal act' w')->Q .normal act w:=by
  intro L act w X m hI hall hQ
  have hres:(a,s)=(af,sf):=by
   split at h
   ·cases hdn:Db D ops.toList 0 with
    | true=>rw [hdn] at h;cases h;rfl
    | false=>rw [hdn] at h;cases h
   ·rename_i j hj;obtain ⟨h1,i,h2,h3⟩:=qz (D:=D) (l:=ops.toList) (k:=0) (j:=j) (by rw [hj];simp);have:=hI.sub j (hall j (by simp at h3;omega));rw [h1] at this;cases this
   ·cases h
  cases hres
  refine hQ act w m (Le.refl _) (hI.sr.ghosts hI.G (fun r o hr=>by rw [hI.K];exact hr)) ⟨hI.tsize,fun t=>hI.tmps t fun i o hi _ _=>hall i (aS.1 hi).1⟩ rfl (bR _ _)
 intro fuel
 induction fuel with
 | zero =>
  intro L act w X m hI hcount hQ
  have hall:∀ i,i<ops.size->L.getD i false=true:=by
   intro i hi
   have hz:L.toList.count false=0:=by omega
   have hnm:=List.count_eq_zero.1 hz
   cases hl:L.getD i false with
   | true=>rfl
   | false =>
    have hi':i<L.size:=by rw [hI.size];exact hi
    exact absurd (by rw [<-hl];simp [hi']) hnm
  refine ⟨?_,fin L act w X m hI hall hQ⟩
  cases hr:Region.ready .any ops L with
  | nil=>rfl
  | cons i l =>
   exfalso;obtain ⟨h1,o,h2,_⟩:=mem_ready.1 (show i∈Region.ready .any ops L by rw [hr];simp);have h3:=hall i (aS.1 h2).1
   have hi':i<L.size:=by rw [hI.size];exact (aS.1 h2).1
   simp [hi'] at h1 h3;rw [h3] at h1;cases h1
 | succ fuel ihf =>
  intro L act w X m hI hcount hQ;refine ⟨fun hr=>fin L act w X m hI (full hg hI.size hr) hQ,fun i hi=>?_⟩;obtain ⟨h1,o,ho,hp⟩:=mem_ready.1 hi
  have hlt:i<L.size:=by rw [hI.size];exact (aS.1 ho).1
  have hL:L.getD i false=false:=by simp [hlt] at h1 ⊢;exact h1
  have hcnt:=count_set hlt hL
  cases hiD:aB D i with
  | true =>
   refine Bq hC hg hI hver ho hiD hL hp hF fun act' w' X' m' hI' hle hb hdef=>?_;exact ihf _ act' w' X' m' hI' (by omega) fun act2 w2 m2 hle2 hs2 hT2 hd2 hb2=>hQ act2 w2 m2 (hle.trans hle2) hs2 hT2 (hd2.trans hdef) (hb.trans hb2)
  | false =>
   have hpD:cr D o.after.toList=true:=nK.2 fun e he hb=>hI.sub _ (hp e (by simpa using he) hb);have hmem:=nM (D:=D) (l:=ops.toList) (k:=0) (i:=i) (o:=o) (by simpa using ho) (by simpa using hiD) hpD;rw [Nat.zero_add] at hmem
   split at h
   ·rename_i hj;rw [hj] at hmem;cases hmem
   ·rename_i j hj;rw [hj] at hmem
    have hij:i=j:=by simpa using hmem
    subst hij
    have ho':ops.toList[i]?=some o:=by simpa using ho
    rw [ho'] at h;simp only [H4] at h
    cases hgw:(em ops.toList o a && aX ops.toList o a) with
    | false=>rw [hgw] at h;cases h
    | true =>
     rw [hgw] at h;rw [Bool.and_eq_true] at hgw;obtain ⟨hgb,hw⟩:=hgw;simp only [cond_true] at h
     split at h
     ·rename_i v s1 hact
      split at h
      ·rename_i a1 ha1;unfold wpOpIn;rw [ho];simp only [];rw [mj hg hI ho hp hgb,hw,if_pos rfl];refine sx hC hc hf hF hI.sr (masked hI) hI.hB (o:=o) (v:=v) (s':=s1) (by rw [sv (js hg hI ho hp)];exact hact) (qw hg hI ho hp) ?_;rintro v' w' ⟨m',hle,hs',hv,hb⟩;refine hd N ops _ _ _ _ af sf hg h q F n Q B X0 _ _ w' X m' γ fuel hF (hI.both hg ho hiD hp ha1 hle hs' hv hb) (by omega) ?_;intro act2 w2 m2 hle2 hs2 hT2 hd2 hb2;exact hQ act2 w2 m2 (hle.trans hle2) hs2 hT2 (hd2.trans put_defers) (hb.trans hb2)
      ·cases h
     ·cases h
   ·cases h
theorem wj (hC:uJ ω C) (hc:rn ω C ih) (hf:wb ω C ih) (hd:Dk ω C ih):∀ (N:Nat) (ops:Array Oper) (D A:Nat) (a:T Value) (s:AS) (af:T Value) (sf:AS),Good ops->Hb C ih N ops.toList D A a s=some (af,sf) ->
 ∀ (q:Bool) (F:Fence) (n:Nat) (Q:Exit->Act->World->Prop) (B:Nat) (X0:cK) (L:Array Bool) (act:Act) (w:World) (X:cK) (m:M ω) (γ:Nat->Nat) (fuel:Nat),lq q F->eZ C ops N B X0 D A a s L act w X m γ->L.toList.count false<=fuel ->
 (∀ act' w' m',Le m m'->SR B X0 m' sf w'->TR m' N af act'->act'.defers=act.defers->Below B w w'->Q .normal act' w')->wpAnyIn F n C.P .any ops Q fuel L act w:=by
 intro N ops D A a s af sf hg h q F n Q B X0 L act w X m γ fuel hF hI hcount hQ;unfold Hb at h
 split at h
 ·rename_i D1 a1 s1 hp;obtain ⟨X1,γ1,hI1⟩:=gg hg (l:=ops.toList) (k:=0) (fun i=>by simp) hI hp;exact uf hC hc hf hd hg h hF fuel L act w X1 m hI1 hcount hQ
 ·cases h
theorem TR.put (h:TR m N a act) {d:Option Tmp} {v v':Value} (hp:rh N a d v=some a') (hv:VRel m v v'):TR m N a' (act.put d v'):=by
 rcases mh hp with ⟨rfl,rfl⟩ | ⟨t,rfl,ht,rfl⟩
 ·exact h
 ·refine ⟨by rw [qy];exact h.size,fun k=>?_⟩;rw [T.get_put];by_cases hk:k=t
  ·rw [if_pos hk,hk,jz (by rw [h.size];exact ht),if_pos rfl];exact hv
  ·rw [if_neg hk,lh (fun e=>hk (by cases e;rfl))];exact h.rel k
theorem Br (hC:uJ ω C) (hc:rn ω C ih) (hf:wb ω C ih) (ho:E2 ω C ih):∀ (N:Nat) (ops:Array Oper) (k:Nat) (os:List Oper) (a:T Value) (s:AS) (af:T Value) (sf:AS),(∀ i,os[i]?=ops[k+i]?)->II C ih N ops.toList os a s=some (af,sf) ->
 ∀ (q:Bool) (F:Fence) (n:Nat) (Q:Exit->Act->World->Prop) (B:Nat) (X:cK) (m:M ω) (act:Act) (w:World),lq q F->SR B X m s w->TR m N a act->Bs ω C B w ->
 (∀ act' w' m',Le m m'->SR B X m' sf w'->TR m' N af act'->act'.defers=act.defers->Below B w w'->Q .normal act' w')->wpOpsIn F n C.P ops Q ((List.range ops.size).drop k) act w:=by
 intro N ops k os a s af sf hl h q F n Q B X m act w hF hs hT hB hQ
 cases os with
 | nil =>
  cases h
  have hk:ops.size<=k:=by
   have:=hl 0;simp at this;exact this
  rw [List.drop_eq_nil_of_le (by simpa using hk)];exact hQ act w m (Le.refl _) hs hT rfl (bR _ _)
 | cons o os =>
  have hk:ops[k]?=some o:=by have:=hl 0;simpa using this.symm
  have hlt:k<ops.size:=(aS.1 hk).1
  have hl':∀ i,os[i]?=ops[k+1+i]?:=fun i=>by have:=hl (i+1);rw [List.getElem?_cons_succ] at this;rw [this];congr 1;omega
  rw [List.drop_eq_getElem_cons (by simpa using hlt)];simp only [List.getElem_range,wpOpsIn,hk];have h':vL C ih N ops.toList o os a s=some (af,sf):=h;unfold vL at h'
  cases hgb:em ops.toList o a with
  | false=>rw [hgb] at h';cases h'
  | true =>
  rw [hgb] at h';simp only [cond_true] at h';have hw:Region.wanted o (yielded ops act.tmps)=aX ops.toList o a:=nP (m:=m) hgb fun g b og t _ _ _=>hT.rel t;rw [hw]
  cases hwb:aX ops.toList o a with
  | false =>
   rw [hwb] at h';rw [if_neg (by simp)];have h2:Ba ih N ops.toList os o.dst undef a s=some (af,sf):=h';unfold Ba at h2
   cases hp:rh N a o.dst undef with
   | none=>rw [hp] at h2;cases h2
   | some a1 =>
    rw [hp] at h2;refine ⟨fun f _=>hF.fn f,ho N ops (k+1) os a1 s af sf hl' h2 q F n Q B X m _ w hF hs (hT.put hp gZ) hB ?_⟩;intro act2 w2 m2 hle2 hs2 hT2 hd2 hb2;exact hQ act2 w2 m2 hle2 hs2 hT2 (hd2.trans put_defers) hb2
  | true =>
   rw [hwb] at h';rw [if_pos rfl];have h2:xZ ih N ops.toList os o.dst a (m5 ih (wT C o a s))=some (af,sf):=h';unfold xZ at h2
   split at h2
   ·rename_i v s1 hact;refine sx hC hc hf hF hs hT hB hact rfl ?_;rintro v' w' ⟨m',hle,hs',hv,hb⟩;unfold Ba at h2
    cases hp:rh N a o.dst v with
    | none=>rw [hp] at h2;cases h2
    | some a1 =>
     rw [hp] at h2;refine ho N ops (k+1) os a1 s1 af sf hl' h2 q F n Q B X m' _ w' hF hs' ((hT.mono hle).put hp hv) (hB.next hb) ?_;intro act2 w2 m2 hle2 hs2 hT2 hd2 hb2;exact hQ act2 w2 m2 (hle.trans hle2) hs2 hT2 (hd2.trans put_defers) (hb.trans hb2)
   ·cases h2
def gH (F:Fence) (n:Nat) (P:Program) (c:Code) (Q:Exit->Act->World->Prop) (a:Act) (w:World):Prop :=
 ∀ (b:Frame) (k:List Item) (cs:List Frame),b.roundOf=F.round->F.fn b.fn->F.room (cs.length+1+n) ->
  ∃ e a' w',Q e a' w'/\ArrivesIn (Machine.fenced P F) P (lone (b.atR a (.code c :: .inLoop c::k)) cs w) b k cs e a' w'
theorem gH.loop {F:Fence} {n:Nat} {P:Program} {c:Code} {Q:Exit->Act->World->Prop} {a:Act} {w:World} (h:gH F n P c Q a w):(Code.loop c).wpIn F n P Q a w:=by
 intro b k cs hro hb hr;obtain ⟨e,a',w',hq,harr⟩:=h b k cs hro hb hr;exact ⟨e,a',w',hq,.of_steps (.one (fenced_calm hb hr rfl) stepR_loop) harr⟩
theorem gH.step {F:Fence} {n:Nat} {P:Program} {c:Code} {Q:Exit->Act->World->Prop} {a:Act} {w:World} (h:c.wpIn F n P (Exit.then (gH F n P c Q) Q) a w):gH F n P c Q a w:=by
 intro b k cs hro hb hr;obtain ⟨e,a₁,w₁,hq,harr⟩:=h b (.inLoop c::k) cs hro hb hr
 cases e with
 | normal =>
  obtain ⟨e₂,a₂,w₂,hq₂,harr₂⟩:=hq b k cs hro hb hr;exact ⟨e₂,a₂,w₂,hq₂,.of_steps (StepsIn.trans harr (.one (fenced_calm hb hr rfl) stepR_inLoop)) harr₂⟩
 | exit id=>exact ⟨_,a₁,w₁,hq,.pass (x:=.inLoop c) rfl (fun _ _=>.inl (by simp)) harr⟩
 | goto l=>exact ⟨_,a₁,w₁,hq,.pass (x:=.inLoop c) rfl (fun _ _=>.inl (by simp)) harr⟩
 | ret=>exact ⟨_,a₁,w₁,hq,.pass (x:=.inLoop c) rfl (fun _ _=>.inl (by simp)) harr⟩
 | panic ch=>exact ⟨_,a₁,w₁,hq,.pass (x:=.inLoop c) rfl (fun _ _=>.inl (by simp)) harr⟩
 | outgrown=>exact ⟨_,a₁,w₁,hq,.pass (x:=.inLoop c) rfl (fun _ _=>.inl (by simp)) harr⟩
def GA (ω:Nat->Value) (C:Ctx) (ih:bL):Prop:=∀ q N c a s x a' s',ih.c q N (.loop c) a s=some (x,a',s')->∀ (B:Nat) (X:cK) (m:M ω) (act:Act) (w:World) (F:Fence) (n:Nat) (K0:Nat->Option Obj),
 lq q F->SR B X m s w->TR m N a act->MK K0 X.K act.defers->Bs ω C B w->gH F n C.P c (iR B X m N x a' s' w K0) act w
theorem iR.back {x:Xt} {K0:Nat->Option Obj} {e:Exit} {act':Act} {w1 w':World} {X1:cK} {m1:M ω} (h:iR B X1 m1 N x a' s' w1 K0 e act' w') (hG:X1.G=X.G) (hle:Le m m1) (hb:Below B w w1):iR B X m N x a' s' w K0 e act' w':=by
 obtain ⟨he,X2,m2,h1,h2,h3,h4,h5,h6⟩:=h;exact ⟨he,X2,m2,h1.trans hG,h2,hle.trans h3,h4,h5,hb.trans h6⟩
end
end Go.Proofs.YtgohffhoapkeaaaGreatDoor.Ev
namespace Go.Proofs.YtgohffhoapkeaaaGreatDoor.Ev
open Go.RowKit
variable {ω:Nat->Value}
section
variable {C:Ctx} {N B:Nat} {X:cK} {a a':T Value} {s s':AS} {act:Act} {w:World} {m:M ω} {ih:bL}
theorem SR.drew (h:SR B X m s w):SR B X m s {w with drawn:=w.drawn+1}:=⟨fun b o i h1 h2 h3=>by
 obtain ⟨k1,k2,k3⟩:=h.rel b o i h1 h2 h3;exact ⟨k1.other rfl,k2,k3⟩,h.inj,h.freshH,h.freshM,h.gh,h.kp,h.lt⟩
theorem ug (ho:E2 ω C ih) {ops:Array Oper} {id:Nat} {x:Xt} {q:Bool} (h:oD ops C ih q N a s=some (x,a',s')) {F:Fence} {n:Nat} {K0:Nat->Option Obj} (hF:lq q F) (hs:SR B X m s w) (hT:TR m N a act) (hM:MK K0 X.K act.defers) (hB:Bs ω C B w) :
 (Code.region id ops false).wpIn F n C.P (iR B X m N x a' s' w K0) act w:=by
 unfold oD at h
 split at h
 ·rename_i a1 s1 h1
  cases h
  refine wpIn_region ?_
  have:=ho N ops 0 ops.toList a s a' s' (fun i=>by simp) h1 q F n (iR B X m N .normal a' s' w K0) B X m act w hF hs hT hB fun act' w' m' hle hs' hT' hd hb=>⟨rfl,X,m',rfl,by rw [hd];exact hM,hle,hs',hT',hb⟩
  rwa [List.drop_zero] at this
 ·cases h
theorem ml (hC:uJ ω C) (hd:Dk ω C ih) {ops:Array Oper} {id:Nat} {x:Xt} {q:Bool} (h:tR ops C ih q N a s=some (x,a',s')) {F:Fence} {n:Nat} {K0:Nat->Option Obj} (hF:lq q F) (hs:SR B X m s w) (hT:TR m N a act) (hM:MK K0 X.K act.defers) (hB:Bs ω C B w) :
 (Code.region id ops true).wpIn F n C.P (iR B X m N x a' s' w K0) act w:=by
 unfold tR at h
 cases hok:okD ops.toList with
 | false=>rw [hok] at h;cases h
 | true =>
  rw [hok] at h;simp only [cond_true] at h
  split at h
  ·rename_i a1 s1 h1
   cases h
   have hg:=EW hok;refine wpIn_region_any hC.mixed ?_
   have hL:∀ i,(Array.replicate ops.size false).getD i false=false:=fun i=>by
    by_cases hi:i<ops.size <;> simp [hi]
   refine hd N ops 0 0 a s a' s' hg h1 q F n _ B X _ act _ X m (fun i=>i) ops.size hF ⟨by simp,fun i hi=>?_,fun i o _ hi=>?_,fun i o _ hi=>?_,fun i _ hi=>?_,fun i o t _ hi=>?_,hT.size,fun t _=>hT.rel t,hs.drew,rfl,fun _ _ h=>h,?_,?_,hB.next ((bR B w).drew),fun i o _ _ hi=>by rw [cP] at hi;cases hi⟩ ?_ ?_
   ·rw [hL] at hi;cases hi
   ·rw [hL] at hi;cases hi
   ·rw [cP] at hi;cases hi
   ·rw [cP] at hi;cases hi
   ·rw [cP] at hi;cases hi
   ·rintro i o p f ⟨_,hi,_⟩;rw [cP] at hi;cases hi
   ·rintro i j oi oj qi qj fi fj ⟨_,hi,_⟩;rw [cP] at hi;cases hi
   ·simp
   ·intro act' w' m' hle hs' hT' hdd hb;exact ⟨rfl,X,m',rfl,by rw [hdd];exact hM,hle,hs',hT',((bR B w).drew).trans hb⟩
  ·cases h
theorem SR.keep (h:SR B X m s w) {r:Nat} {o:Obj} (hr:w.heap[r]?=some o) (hB:B<=r) (hm:∀ b i,m b=some i->i.r≠r):SR B ⟨X.G,fun k=>if k=r then some o else X.K k⟩ m s w :=
 ⟨h.rel,h.inj,h.freshH,h.freshM,h.gh,fun k p hk=>by
  have hk':(if k=r then some o else X.K k)=some p:=hk;by_cases e:k=r
  ·rw [if_pos e] at hk';cases hk';rw [e];exact ⟨hr,hB,hm⟩
  ·rw [if_neg e] at hk';exact h.kp k p hk',h.lt⟩
theorem SR.besides (h:SR B X m s w) (hB:B<=w.heap.size) (o:Obj):SR B ⟨X.G,fun k=>if k=w.heap.size then some o else X.K k⟩ m s (w.alloc o):=by
 have h1:SR B X m s (w.alloc o):=⟨fun b p i h1 h2 h3=>by
  obtain ⟨k1,k2,k3⟩:=h.rel b p i h1 h2 h3
  exact ⟨k1.other (Below.heap_alloc w _ _ k3),k2,by simp;omega⟩,h.inj,h.freshH,h.freshM,h.gh,fun r p hr=>by
  obtain ⟨k1,k2,k3⟩:=h.kp r p hr
  exact ⟨by rw [Below.heap_alloc w _ _ (aS.1 k1).1];exact k1,k2,k3⟩,fun b i hi=>by have:=h.lt b i hi;simp;omega⟩
 exact h1.keep (heap_alloc_new w o) hB (fun b i hi=>by have:=h.lt b i hi;omega)
theorem wk {fn:Func} {tm:Array Value} {R:Ending->World->Prop} {n:Nat} {K0:Nat->Option Obj} {G:Nat->Option AObj} {v:Value} (hres:∀ w',SR B ⟨G,K0⟩ m s w'->Below B w w'->∃ v',(results fn tm).run C.P w'=.ok v' w'/\R (.returned v') w') :
 ∀ {K:Nat->Option Obj} {ds:List Deferred},MK K0 K ds->∀ w',SR B ⟨G,K⟩ m s w'->Below B w w'->LeavesInM Fence.wide n C.P fn tm R ds .returning w':=by
 intro K ds h
 induction h with
 | nil=>exact fun w' hs hb=>hres w' hs hb
 | cons D K ds _ hD ih =>
  intro w' hs hb;obtain ⟨h1,h2,h3⟩:=hs.kp D (.deferred (some [])) (by simp);have hlt:D<w'.heap.size:=(aS.1 h1).1;refine ⟨by simp,.inl ⟨D,_,rfl,run_takeDeferred h1,ih _ ?_ (hb.trans ⟨rfl,rfl,rfl,by simp [World.putObj],fun k hk=>World.putObj_heap_other (by omega)⟩)⟩⟩;refine ⟨fun b o i k1 k2 k3=>?_,hs.inj,hs.freshH,hs.freshM,hs.gh,fun r o hr=>?_,fun b i hi=>by simp [World.putObj];exact hs.lt b i hi⟩
  ·obtain ⟨e1,e2,e3⟩:=hs.rel b o i k1 k2 k3;exact ⟨e1.other (World.putObj_heap_other (h3 b i k3)),e2,by simp [World.putObj];exact e3⟩
  ·have hne:r≠D:=fun e=>by
    have hr':K r=some o:=hr;rw [e,hD] at hr';cases hr'
   obtain ⟨e1,e2,e3⟩:=hs.kp r o (by show (if r=D then _ else K r)=some o;rw [if_neg hne];exact hr);exact ⟨by rw [World.putObj_heap_other hne];exact e1,e2,e3⟩
theorem gw (hC:aM ω C) (hs:SR B X m s w) (hT:TR m N a act):∀ {rs:List ResultVar} {l:List Value},kz C s a rs=some l ->
 ∃ l',LRel m l l'/\(rs.mapM (m:=Sem) fun | .tmp t=>pure (act.tmps.getD t undef) | .cell p t=>do loadVar t (<-asAddr (act.tmps.getD p undef))).run C.P w=.ok l' w
 | [],l,h=>by cases h;exact ⟨[],LRel.nil m,by simp⟩
 | .tmp t::rs,l,h=>by
  simp only [kz] at h
  split at h
  ·rename_i l1 h1
   cases h
   obtain ⟨l',hl,hr⟩:=gw hC hs hT h1;refine ⟨_,LRel.cons (hT.rel t) hl,?_⟩;simp only [List.mapM_cons,Sem.run_bind,Sem.run_pure,Result.andThen,hr]
  ·cases h
 | .cell p t::rs,l,h=>by
  simp only [kz] at h
  split at h
  ·rename_i ad had;have hv:=hT.rel p;rw [had] at hv;obtain ⟨ad',hA,hpe⟩:=bu hv
   have haddr:(asAddr (act.tmps.getD p undef)).run C.P w=.ok ad' w:=by rw [hpe];simp [asAddr]
   split at h
   ·rename_i k l1 hag hsz h1
    split at h
    ·rename_i cs hcs
     cases h
     obtain ⟨l',hl,hr⟩:=gw hC hs hT h1;obtain ⟨i,hi,rfl⟩:=aE hC hsz;obtain ⟨q,e1,e2,e3⟩:=aL hs hcs hA;have hlc:=run_loadCells_list (P:=C.P) w ad' q e3;rw [e2] at hlc
     have hload:(loadVar t ad').run C.P w=.ok (.agg q.toArray) w:=by simp [loadVar,cE hC hag,sizeOf,typeInfo,hi,hlc]
     refine ⟨_,LRel.cons e1.agg hl,?_⟩;simp only [List.mapM_cons,Sem.run_bind,haddr,hload,Sem.run_pure,Result.andThen,hr]
    ·cases h
   ·rename_i l1 hag h1
    split at h
    ·rename_i v hcs
     cases h
     obtain ⟨l',hl,hr⟩:=gw hC hs hT h1;obtain ⟨q,e1,e2,e3⟩:=aL hs hcs hA
     match q,e2,e1,e3 with
     | [v'],_,e1,e3 =>
      have hcell:=e3 0 v' rfl
      have he:ad'.add 0=ad':=by simp [Addr.add]
      rw [he] at hcell
      have hload:(loadVar t ad').run C.P w=.ok v' w:=by simp [loadVar,cE hC hag,load,Sem.run,hcell]
      refine ⟨_,LRel.cons e1.tail.1 hl,?_⟩;simp only [List.mapM_cons,Sem.run_bind,haddr,hload,Sem.run_pure,Result.andThen,hr]
    ·cases h
   ·cases h
  ·cases h
end
end Go.Proofs.YtgohffhoapkeaaaGreatDoor.Ev
namespace Go.Proofs.YtgohffhoapkeaaaGreatDoor.Ev
open Go.RowKit
variable {ω:Nat->Value}
section
variable {C:Ctx} {N B:Nat} {X:cK} {a a':T Value} {s s':AS} {act:Act} {w:World} {m:M ω} {ih:bL}
def zI:List Value->Value
 | [v]=>v
 | l=>.tuple l.toArray
theorem rq (hC:aM ω C) (hs:SR B X m s w) (hT:TR m N a act) {fn:Func} {l:List Value} (h:kz C s a fn.results.toList=some l) :
 ∃ v',(results fn act.tmps).run C.P w=.ok v' w/\VRel m (zI l) v':=by
 obtain ⟨l',hl,hr⟩:=gw hC hs hT h
 have hm:(fn.results.mapM (m:=Sem) fun | .tmp t=>pure (act.tmps.getD t undef) | .cell p t=>do loadVar t (<-asAddr (act.tmps.getD p undef))).run C.P w=.ok l'.toArray w:=by
  rw [Array.mapM_eq_mapM_toList,Sem.run_map];exact congrArg (fun r:Result (List Value)=>r.andThen fun a w'=>.ok a.toArray w') hr
 refine ⟨if h:l'.toArray.size=1 then l'.toArray[0] else .tuple l'.toArray,?_,?_⟩
 ·unfold results;rw [Sem.run_bind];exact congrArg (fun r:Result (Array Value)=>r.andThen fun vs w=>.ok (if h:vs.size=1 then vs[0] else .tuple vs) w) hm
 ·clear h hr hm
  match l,l',hl with
  | [],[],hl=>exact LRel.tuple hl
  | [v],[v'],hl=>exact hl.tail.1
  | [],_::_,hl=>exact absurd hl.1 (by simp)
  | _::_,[],hl=>exact absurd hl.1 (by simp)
  | [_],_::_::_,hl=>exact absurd hl.1 (by simp)
  | _::_::_,[_],hl=>exact absurd hl.1 (by simp)
  | u::v::l,u'::v'::l',hl=>rw [dif_neg (by simp)];exact LRel.tuple hl
theorem E3 {vs:List Value} {args:Array Value} (hl:LRel m vs args.toList) {k:Nat} (hk:vs.length<=k):TR m k (T.bH vs 0 .leaf) {tmps:=args++Array.replicate (k-args.size) undef,defers:=[]}:=by
 have hsz:args.size=vs.length:=by have:=hl.1;simpa using this.symm
 refine ⟨by simp;omega,fun t=>?_⟩;rw [T.br];by_cases ht:t<vs.length
 ·rw [if_pos (by omega)]
  have h1:vs[t-0]?=some vs[t]:=by simp [ht]
  have h2:args.toList[t]?=some (args.toList[t]'(by simp;omega)):=gE (by simp;omega)
  have h3:(args++Array.replicate (k-args.size) undef).getD t undef=args.toList[t]'(by simp;omega):=by
   simp [Array.getElem?_append,show t<args.size by omega]
  rw [h1];show VRel m vs[t] ((args++Array.replicate (k-args.size) undef).getD t undef);rw [h3];exact hl.2 t _ _ (gE ht) h2
 ·rw [if_neg (by omega)];have hg:(T.leaf:T Value).get t=none:=rfl
  have h3:(args++Array.replicate (k-args.size) undef).getD t undef=undef:=by
   by_cases h4:t<args.size+(k-args.size)
   ·simp [Array.getElem?_append,show ¬ t<args.size by omega,Array.getElem?_replicate]
    split <;> rfl
   ·simp [Array.getElem?_append,show ¬ t<args.size by omega,Array.getElem?_replicate]
    split <;> rfl
  rw [hg];show VRel m undef ((args++Array.replicate (k-args.size) undef).getD t undef);rw [h3];exact gZ
theorem Bt (hC:uJ ω C) (hc:rn ω C ih):wb ω C ⟨ih.c,ih.o,ih.d,Gw C ih⟩:=by
 intro g vs s v s' h B X m w args hs hl hB;have h':Gw C ih g vs s=some (v,s'):=h;unfold Gw at h'
 cases hsp:C.sp g with
 | some k =>
  rw [hsp] at h';exact ⟨hC.sp g k hsp vs s v s' h' B X m w args hs hl hB,fun e=>by cases e⟩
 | none =>
  rw [hsp] at h';simp only at h'
  split at h'
  ·rename_i fn hfn
   split at h'
   ·rename_i b hb
    cases hle:Nat.ble vs.length fn.ntmps with
    | false=>rw [hle] at h';cases h'
    | true =>
     rw [hle] at h';simp only [cond_true] at h';have hle':=Nat.le_of_ble_eq_true hle;have he:∀ args w,(callFunc g args).run C.P w=.ok (.enter g args) w:=hC.ok.call g fn hfn (by rw [hb];rfl)
     have key:∀ n,CallsIn Fence.wide n C.P g args w (IJ B X m s' w v):=by
      intro n;refine callsIn_of_wp_marks (hC.ok.fn g fn hfn) hb trivial ?_
      cases hx:ih.c false fn.ntmps b (T.bH vs 0 .leaf) s with
      | none=>rw [hx] at h';cases h'
      | some p =>
       obtain ⟨x,a1,s1⟩:=p;rw [hx] at h'
       have hnx:∀ id,x≠.exit id:=by rintro id rfl;cases h'
       have hpk:∀ {o:Option (Value × AS)},(match kz C s1 a1 fn.results.toList with | some [v]=>some (v,s1) | some l=>some (.tuple l.toArray,s1) | none=>none)=o->o=some (v,s')->∃ l,kz C s1 a1 fn.results.toList=some l/\s1=s'/\v=zI l:=by
        intro o ho h';subst ho
        split at h'
        ·rename_i u hu;cases h';exact ⟨_,hu,rfl,rfl⟩
        ·rename_i l hnl hu
         cases h'
         refine ⟨l,hu,rfl,?_⟩
         match l with
         | []=>rfl
         | [u]=>exact absurd rfl (hnl u)
         | _::_::_=>rfl
        ·cases h'
       have hres:∃ l,kz C s1 a1 fn.results.toList=some l/\s1=s'/\v=zI l:=by
        cases x with
        | exit id=>exact absurd rfl (hnx id)
        | normal=>exact hpk rfl h'
        | ret=>exact hpk rfl h'
       obtain ⟨l,hl1,rfl,rfl⟩:=hres;refine wpIn_mono (hc false _ _ _ _ _ _ _ hx B X m _ w Fence.wide n X.K (.inl ⟨rfl,rfl⟩) hs (E3 hl hle') .nil hB) ?_;rintro e act' w' ⟨rfl,X1,m1,hG,hM,hle1,hs1,hT1,hb1⟩
       have fin:LeavesInM Fence.wide n C.P fn act'.tmps (IJ B X m s1 w (zI l)) act'.defers .returning w':=by
        refine wk (C:=C) (w:=w) (v:=undef) (K0:=X.K) (G:=X.G) (s:=s1) (m:=m1) ?_ hM w' (by have h0:=hs1;obtain ⟨G1,K1⟩:=X1;simp only at hG;rw [hG] at h0;exact h0) hb1;intro w2 hs2 hb2;obtain ⟨v',hr,hv⟩:=rq hC.ok hs2 hT1 hl1;exact ⟨v',hr,v',rfl,m1,hle1,hs2,hv,hb2⟩
       cases x with
       | normal=>exact fin
       | ret=>exact fin
       | exit id=>exact absurd rfl (hnx id)
     exact ⟨jq (he args w) key,fun _=>⟨he,key⟩⟩
   ·cases h'
  ·cases h'
theorem uh (hc:rn ω C ih) (hf:wb ω C ih) {g:Operand} {ps:Array Tmp} {asg bd:Code} {x:Xt} {q:Bool} (h:tP g ps asg bd C ih q N a s=some (x,a',s')) {F:Fence} {n:Nat} {K0:Nat->Option Obj} (hF:lq q F) (hs:SR B X m s w) (hT:TR m N a act) (hM:MK K0 X.K act.defers) (hBs:Bs ω C B w) :
 (Code.rangeFunc g ps asg bd).wpIn F n C.P (iR B X m N x a' s' w K0) act w:=by
 have hB:=hBs.le;unfold tP at h
 cases q with
 | true=>cases h
 | false =>
 simp only [cond_false] at h
 obtain ⟨_,rfl⟩ | ⟨e,_⟩:=hF
 ·split at h
  ·rename_i gf fs cs hg
   cases hcond:(Nat.beq fs.size 0 && (C.sp gf).isNone) with
   | false=>rw [hcond] at h;cases h
   | true =>
    rw [hcond] at h;simp only [cond_true] at h;rw [Bool.and_eq_true] at hcond;have hfs:fs.size=0:=bE hcond.1
    have hsp:C.sp gf=none:=by simpa using hcond.2
    obtain ⟨fs',cs',hev,hfl,hcl⟩:=vX (oS hT hg)
    have hfs':fs'=#[]:=by
     have:=hfl.1;simp at this;exact Array.eq_empty_of_size_eq_zero (by omega)
    subst hfs'
    split at h
    ·rename_i v1 s1 hcall;refine wpIn_rangeFunc ?_;intro fn _
     obtain ⟨rec,hrec⟩:∃ rec:Loop,rec={state:=.ready,pending:=none,fn,tmps:=act.tmps,params:=ps,assign:=asg,body:=bd,defers:=w.heap.size}:=⟨_,rfl⟩
     have hs0:=hs.besides hB (.deferred (some []))
     have hB0:B<=(w.alloc (.deferred (some []))).heap.size:=by simp;omega
     obtain ⟨hs1,hle1⟩:=jS (w1:=(w.alloc (.deferred (some []))).alloc (.loop rec)) hs0 (.loop a N ps.toList asg bd .ready) ⟨(w.alloc (.deferred (some []))).heap.size,0,0,0,false,0⟩ hB0 rfl (by simp) (fun k hk=>Below.heap_alloc _ _ k hk)
      ⟨rec,heap_alloc_new _ _,by rw [hrec],by rw [hrec],by rw [hrec],by rw [hrec];exact hT.size,by rw [hrec];exact ⟨rfl,rfl⟩,fun k=>by rw [hrec];exact hT.rel k⟩
     have hb1:Below B w ((w.alloc (.deferred (some []))).alloc (.loop rec)):=((bR B w).alloc hB _).alloc (by simp;omega) _;have hB1:=hBs.next hb1
     have hargs:LRel (ext m s.n ⟨(w.alloc (.deferred (some []))).heap.size,0,0,0,false,0⟩) (.func (.yield s.n) #[] #[]::cs.toList) (#[Value.func (.yield (w.alloc (.deferred (some []))).heap.size) #[] #[]]++cs').toList:=by
      simp only [Array.toList_append,List.singleton_append];exact LRel.cons (.yield s.n _ (ba _ _ _)) (hcl.mono hle1)
     obtain ⟨he,hcalls⟩:=(hf _ _ _ _ _ hcall B _ _ _ _ hs1 hargs hB1).2 hsp
     have hsize:(w.alloc (.deferred (some []))).heap.size=w.heap.size+1:=by simp
     rw [hsize] at hcalls hle1;generalize hW1:(w.alloc (.deferred (some []))).alloc (.loop rec)=W1 at hs1 hb1 hB1 hcalls;refine ⟨w.heap.size+1,[{target:=.collected w.heap.size,args:=#[]}],W1,{target:=.fn (.func gf) cs',args:=#[.func (.yield (w.heap.size+1)) #[] #[]]},W1,gf,#[.func (.yield (w.heap.size+1)) #[] #[]]++cs',W1,?_,?_,?_,?_,?_,?_⟩
     ·rw [<-hW1,hrec];exact run_enterLoop_outer _ _ _ _ _
     ·simp only [resolve,hev];simp [go_sem]
     ·intro f' _;trivial
     ·simp [invoke,go_sem,he]
     ·intro e;cases e
     ·refine (hcalls (n-1)).mono ?_;rintro e w2 ⟨v2,rfl,m2,hle2,hs2,hv2,hb2⟩;have hi2:=hle2 _ _ (ba m s.n ⟨w.heap.size+1,0,0,0,false,0⟩);have hleA:Le m m2:=hle1.trans hle2
      have hMK:MK K0 (fun k=>if k=w.heap.size then some (.deferred (some [])) else X.K k) ({target:=.collected w.heap.size,args:=#[]} :: act.defers) :=
       .cons w.heap.size X.K _ hM (by
        cases hk:X.K w.heap.size with
        | none=>rfl
        | some o =>
         have:=(hs.kp _ _ hk).1
         exact absurd (aS.1 this).1 (by omega))
      have over:∀ {t:T Value} {nt:Nat} {ps1:List Tmp} {as1 bd1:Code} {st:Ha},s1.h.get s.n=some (.loop t nt ps1 as1 bd1 st)->∃ r:Loop,w2.heap[w.heap.size+1]?=some (.loop r)/\st.is r /\
       SR B ⟨X.G,fun k=>if k=w.heap.size then some (.deferred (some [])) else X.K k⟩ m2 ⟨s1.n,s1.h.put s.n .dead⟩ (w2.putObj (w.heap.size+1) (.loop {r with state:=.exhausted}))/\Below B w (w2.putObj (w.heap.size+1) (.loop {r with state:=.exhausted})):=by
       intro t nt ps1 as1 bd1 st hg1;obtain ⟨⟨r,h0,_,_,_,_,h5,_⟩,hBi,hlt⟩:=hs2.rel _ _ _ hg1 rfl hi2;have hup:=ep (o':=.dead) (w1:=w2.putObj (w.heap.size+1) (.loop {r with state:=.exhausted})) hs2 hg1 rfl hi2 (by simp [World.putObj]) (fun k hk=>World.putObj_heap_other (by simpa using hk)) trivial;exact ⟨r,h0,h5,hup,(hb1.trans hb2).trans ⟨rfl,rfl,rfl,by simp [World.putObj],fun k hk=>World.putObj_heap_other (by omega)⟩⟩
      split at h
      ·rename_i t nt ps1 as1 bd1 hg1
       cases h
       obtain ⟨r,h0,hst,hsr,hbl⟩:=over hg1;refine ⟨none,w2.putObj (w.heap.size+1) (.loop {r with state:=.exhausted}),?_,rfl,⟨X.G,fun k=>if k=w.heap.size then some (.deferred (some [])) else X.K k⟩,m2,rfl,hMK,hleA,hsr,⟨(hT.mono hleA).size,(hT.mono hleA).rel⟩,hbl⟩;have:=run_endLoop (P:=C.P) h0 (by rw [hst.1];simp);rw [this,hst.2]
      ·rename_i t nt ps1 as1 bd1 c hg1;obtain ⟨r,h0,hst,hsr,hbl⟩:=over hg1;refine ⟨some c,w2.putObj (w.heap.size+1) (.loop {r with state:=.exhausted}),?_,?_⟩
       ·have:=run_endLoop (P:=C.P) h0 (by rw [hst.1];simp);rw [this,hst.2]
       ·refine wpIn_mono (hc false _ _ _ _ _ _ _ h B ⟨X.G,fun k=>if k=w.heap.size then some (.deferred (some [])) else X.K k⟩ m2 _ _ Fence.wide n K0 (.inl ⟨rfl,rfl⟩) hsr ⟨(hT.mono hleA).size,(hT.mono hleA).rel⟩ hMK (hBs.next hbl)) ?_;intro e2 act3 w3 hp;exact hp.back rfl hleA hbl
      ·cases h
    ·cases h
  ·cases h
 ·cases e
theorem yo (hC:uJ ω C) (hc:rn ω C ih) (hf:wb ω C ih) (ho:E2 ω C ih) (hd:Dk ω C ih) (hl:GA ω C ih):∀ q N c a s x a' s',IH C ih q N c a s=some (x,a',s')->∀ (B:Nat) (X:cK) (m:M ω) (act:Act) (w:World) (F:Fence) (n:Nat) (K0:Nat->Option Obj),
 lq q F->SR B X m s w->TR m N a act->MK K0 X.K act.defers->Bs ω C B w->c.wpIn F n C.P (iR B X m N x a' s' w K0) act w:=by
 intro q N c a s x a' s' h B X m act w F n K0 hF hs hT hM hB
 have here:iR B X m N .normal a s w K0 .normal act w:=⟨rfl,X,m,rfl,hM,Le.refl _,hs,hT,bR _ _⟩
 have h':IX c C ih q N a s=some (x,a',s'):=h
 cases c with
 | skip=>cases h';exact wpIn_skip here
 | label l=>cases h';exact wpIn_label here
 | ret=>cases h';exact wpIn_ret ⟨rfl,X,m,rfl,hM,Le.refl _,hs,hT,bR _ _⟩
 | exit id=>cases h';exact wpIn_exit ⟨rfl,X,m,rfl,hM,Le.refl _,hs,hT,bR _ _⟩
 | seq p r =>
  have h2:Gt p r C ih q N a s=some (x,a',s'):=h';unfold Gt at h2;refine wpIn_seq ?_
  cases hx:ih.c q N p a s with
  | none=>rw [hx] at h2;cases h2
  | some t =>
   obtain ⟨y,a1,s1⟩:=t;rw [hx] at h2;refine wpIn_mono (hc _ _ _ _ _ _ _ _ hx B X m act w F n K0 hF hs hT hM hB) ?_;intro e act1 w1 hp
   cases y with
   | normal =>
    obtain ⟨rfl,X1,m1,hG,hM1,hle1,hs1,hT1,hb1⟩:=hp;refine wpIn_mono (hc _ _ _ _ _ _ _ _ h2 B X1 m1 act1 w1 F n K0 hF hs1 hT1 hM1 (hB.next hb1)) ?_;intro e2 act2 w2 hp2;exact hp2.back hG hle1 hb1
   | ret=>cases h2;have he:=hp.1;subst he;exact hp
   | exit id=>cases h2;have he:=hp.1;subst he;exact hp
 | cond o p r =>
  have h2:zw o p r C ih q N a s=some (x,a',s'):=h';unfold zw at h2
  split at h2
  ·rename_i b hb;refine wpIn_cond (p8 (oS hT hb)) ?_
   have hif:(if b then p else r)=cond b p r:=by cases b <;> rfl
   rw [hif];exact hc _ _ _ _ _ _ _ _ h2 B X m act w F n K0 hF hs hT hM hB
  ·cases h2
 | block id p =>
  have h2:tO id p C ih q N a s=some (x,a',s'):=h';unfold tO at h2;refine wpIn_block ?_
  cases hx:ih.c q N p a s with
  | none=>rw [hx] at h2;cases h2
  | some t =>
   obtain ⟨y,a1,s1⟩:=t;rw [hx] at h2;refine wpIn_mono (hc _ _ _ _ _ _ _ _ hx B X m act w F n K0 hF hs hT hM hB) ?_;intro e act1 w1 hp
   cases y with
   | normal=>cases h2;have he:=hp.1;subst he;exact hp
   | ret=>cases h2;have he:=hp.1;subst he;exact hp
   | exit id' =>
    obtain ⟨rfl,r⟩:=hp;simp only at h2
    cases hb:Nat.beq id id' with
    | true =>
     rw [hb] at h2
     cases h2
     have:=bE hb;subst this;show Exit.inBlock id _ (.exit id) act1 w1;simp only [Exit.inBlock,if_true];exact ⟨rfl,r⟩
    | false =>
     rw [hb] at h2
     cases h2
     have hne:=Nat.ne_of_beq_eq_false hb;show Exit.inBlock id _ (.exit id') act1 w1;simp only [Exit.inBlock,if_neg (show ¬ id'=id from fun e=>hne e.symm)];exact ⟨rfl,r⟩
 | loop p =>
  refine gH.loop (gH.step ?_);have h2:vI p C ih q N a s=some (x,a',s'):=h';unfold vI at h2
  cases hx:ih.c q N p a s with
  | none=>rw [hx] at h2;cases h2
  | some t =>
   obtain ⟨y,a1,s1⟩:=t;rw [hx] at h2;refine wpIn_mono (hc _ _ _ _ _ _ _ _ hx B X m act w F n K0 hF hs hT hM hB) ?_;intro e act1 w1 hp
   cases y with
   | normal =>
    obtain ⟨rfl,X1,m1,hG,hM1,hle1,hs1,hT1,hb1⟩:=hp;have:=hl _ _ _ _ _ _ _ _ h2 B X1 m1 act1 w1 F n K0 hF hs1 hT1 hM1 (hB.next hb1);intro b k cs k1 k2 k3;obtain ⟨e2,act2,w2,hp2,harr⟩:=this b k cs k1 k2 k3;exact ⟨e2,act2,w2,hp2.back hG hle1 hb1,harr⟩
   | ret=>cases h2;have he:=hp.1;subst he;exact hp
   | exit id=>cases h2;have he:=hp.1;subst he;exact hp
 | region id ops dr =>
  cases dr with
  | false=>exact ug ho h' hF hs hT hM hB
  | true=>exact ml hC hd h' hF hs hT hM hB
 | rangeFunc g ps asg bd=>exact uh hc hf h' hF hs hT hM hB
 | _=>cases h'
theorem yp (hc:rn ω C ih) (hl:GA ω C ih):∀ q N c a s x a' s',IH C ih q N (.loop c) a s=some (x,a',s')->∀ (B:Nat) (X:cK) (m:M ω) (act:Act) (w:World) (F:Fence) (n:Nat) (K0:Nat->Option Obj),
 lq q F->SR B X m s w->TR m N a act->MK K0 X.K act.defers->Bs ω C B w->gH F n C.P c (iR B X m N x a' s' w K0) act w:=by
 intro q N p a s x a' s' h B X m act w F n K0 hF hs hT hM hB;refine gH.step ?_;have h2:vI p C ih q N a s=some (x,a',s'):=h;unfold vI at h2
 cases hx:ih.c q N p a s with
 | none=>rw [hx] at h2;cases h2
 | some t =>
  obtain ⟨y,a1,s1⟩:=t;rw [hx] at h2;refine wpIn_mono (hc _ _ _ _ _ _ _ _ hx B X m act w F n K0 hF hs hT hM hB) ?_;intro e act1 w1 hp
  cases y with
  | normal =>
   obtain ⟨rfl,X1,m1,hG,hM1,hle1,hs1,hT1,hb1⟩:=hp;have:=hl _ _ _ _ _ _ _ _ h2 B X1 m1 act1 w1 F n K0 hF hs1 hT1 hM1 (hB.next hb1);intro b k cs k1 k2 k3;obtain ⟨e2,act2,w2,hp2,harr⟩:=this b k cs k1 k2 k3;exact ⟨e2,act2,w2,hp2.back hG hle1 hb1,harr⟩
  | ret=>cases h2;have he:=hp.1;subst he;exact hp
  | exit id=>cases h2;have he:=hp.1;subst he;exact hp
theorem sound (hC:uJ ω C):∀ (fuel:Nat),rn ω C (ev C fuel)/\E2 ω C (ev C fuel)/\Dk ω C (ev C fuel)/\wb ω C (ev C fuel)/\GA ω C (ev C fuel)
 | 0=>⟨fun _ _ _ _ _ _ _ _ h=>(by cases h),fun _ _ _ _ _ _ _ _ _ h=>(by cases h),fun _ _ _ _ _ _ _ _ _ h=>(by cases h),fun _ _ _ _ _ h=>(by cases h),fun _ _ _ _ _ _ _ _ h=>(by cases h)⟩
 | k+1=>by
  obtain ⟨hc,ho,hd,hf,hl⟩:=sound hC k;exact ⟨yo hC hc hf ho hd hl,Br hC hc hf ho,wj hC hc hf hd,Bt hC hc,yp hc hl⟩
theorem Dl (hC:uJ ω C) {fuel:Nat} {g:FuncId} {v:Value} {vs:List Value} {args:Array Value} {s':AS} (h:(ev C fuel).f g vs ⟨0,.leaf⟩=some (v,s')) (hl:LRel (ω:=ω) (fun _=>none) vs args.toList) (hv:am v=true) (hsp:C.sp g=none) (w:World) (hi:∀ g v,C.glob g=some v->g<w.heap.size/\∃ v',w.cell? ⟨g,0,none⟩=some v'/\∀ m:M ω,VRel m v v') (hrd:∀ k,C.rd k=true->Jf w w.heap.size (ω k)) (hiv:∀ g cs,C.iv g=some cs->g<w.heap.size/\∃ t fz,w.heap[g]?=some (.cells cs t fz)):Calls C.P g args w fun e w'=>e=.returned v/\Below w.heap.size w w':=by
 have hs:SR (ω:=ω) w.heap.size ⟨fun _=>none,fun _=>none⟩ (fun _=>none) ⟨0,.leaf⟩ w:=⟨fun b o i h1=>(by cases h1),fun b c o p i j h1=>(by cases h1),fun b _=>rfl,fun b _=>rfl,fun b o h1=>(by cases h1),fun r o h1=>(by cases h1),fun b i h1=>(by cases h1)⟩
 have:=((sound hC fuel).2.2.2.1 g vs _ v s' h w.heap.size _ _ w args hs hl ⟨nR _,hi,hrd,hiv⟩).2 hsp;refine (callsIn_wide.1 (this.2 0)).mono ?_;rintro e w' ⟨v',rfl,m',_,_,hr,hb⟩;exact ⟨by rw [aK hr hv],hb⟩
end
end Go.Proofs.YtgohffhoapkeaaaGreatDoor.Ev
