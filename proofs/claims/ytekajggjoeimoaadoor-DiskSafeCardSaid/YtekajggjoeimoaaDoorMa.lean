/- A region whose last operations come one behind the other: what is known of the world need hold only ahead of them. The disk's turn: a change of the directory now. isName, walked. Create, walked whole. maps.Clone at directories; SyncDir. used, walked: a range over the directory. slices.Repeat at sectors. Grow, walked. Grow: what it leaves. -/
import Derived.StillTail
import Derived.Deep.RegionHeld3
import Derived.Test.YtekajggjoeimoaaDoorQf
import Derived.Test.YtekajggjoeimoaaDoorQc
import Derived.Shelf.SlMaps.Clone
import Derived.Maps.RangeRun
import Derived.Shelf.Bits.Mul64
set_option linter.unusedVariables false
namespace Go.Proofs.YtekajggjoeimoaaDoor
section
variable {P : Program} {ops : Array Oper} {Q : Exit → Act → World → Prop} {md : Region.Mode} {S : World → Prop} {n : Nat}
def wpAnyE (P : Program) (md : Region.Mode) (ops : Array Oper) (Q : Exit → Act → World → Prop) (S : World → Prop) (n : Nat) : Nat → Array Bool → Act → World → Prop
  | 0, listed, a, w => Region.ready md ops listed = [] ∧ Q .normal a w
  | fuel + 1, listed, a, w =>
    (Region.ready md ops listed = [] → Q .normal a w) ∧
    ∀ i ∈ Region.ready md ops listed, wpOp P ops Q i (fun a' w' => (i < n → S w') ∧ wpAnyE P md ops Q S n fuel (listed.setIfInBounds i true) a' w') a w
theorem wpAny_of_E : ∀ (fuel : Nat) (listed : Array Bool) (a : Act) (w : World), wpAnyE P md ops Q S n fuel listed a w → wpAny P md ops Q fuel listed a w
  | 0, _, _, _, h => h
  | fuel + 1, _, _, _, h => ⟨h.1, fun i hi => wpOp_mono (fun a' w' h' => wpAny_of_E fuel _ a' w' h'.2) (h.2 i hi)⟩
theorem wpAnyE_first {i : Nat} {oi : Oper} {v : Value} (hi : ops[i]? = some oi) (hsel : ∀ (j : Nat) (o : Oper) cs b, ops[j]? = some o → o.op ≠ .select cs b)
    (hQ : ∀ c a w, Q (.panic c) (a.put oi.dst v) w → Q (.panic c) a w) (hs : Region.sinkB md ops n = true) (hc : Region.chainB md ops n = true) (hn : n < ops.size) (hin : i < n) :
    ∀ (fuel : Nat) (listed : Array Bool) (a : Act) (w : World), HeadInv md ops n listed →
      (∀ j oj, ops[j]? = some oj → j ≠ i → listed.getD j true = false → (∀ e ∈ oj.after, Region.binds md e = true → e.on ≠ i) → oi.apart ops oj = true) →
      i ∈ Region.ready md ops listed → YieldsIf P ops S oi v a → S w →
      wpAnyE P md ops Q S n fuel (listed.setIfInBounds i true) (a.put oi.dst v) w → wpAnyE P md ops Q S n (fuel + 1) listed a w := by
  intro fuel
  induction fuel with
  | zero =>
    intro listed a w _ _ hr hy hS H
    refine ⟨fun h => (by rw [h] at hr; cases hr), fun j hj => ?_⟩
    by_cases hji : j = i
    · subst hji; exact hy.wpOp hi hS ⟨fun _ => hS, H⟩
    · have := ready_mono hj hji
      rw [H.1] at this
      cases this
  | succ fuel ih =>
    intro listed a w inv hfree hr hy hS H
    have hun := (mem_ready.1 hr).1
    refine ⟨fun h => (by rw [h] at hr; cases hr), fun j hj => ?_⟩
    by_cases hji : j = i
    · subst hji; exact hy.wpOp hi hS ⟨fun _ => hS, H⟩
    · have hjn : j < n := by
        rcases Nat.lt_or_ge j n with h | h
        · exact h
        · exact absurd hj (tail_waits hs hc hn inv _ i rfl hin hun j h)
      have h1 := H.2 j (ready_mono hj hji)
      obtain ⟨hjun, oj, hoj, hall⟩ := mem_ready.1 hj
      have hnot : ∀ e ∈ oj.after, Region.binds md e = true → e.on ≠ i := fun e he hb heq => by
        have h1 := hall e he hb
        rw [heq, getD_both hun] at h1
        cases h1
      have h2 := wpOp_putIf hoj (hfree j oj hoj hji hjun hnot) (fun cs b => hsel i oi cs b hi) (fun cs b => hsel j oj cs b hoj) hQ hy h1
      have hfree' : ∀ k ok, ops[k]? = some ok → k ≠ i → (listed.setIfInBounds j true).getD k true = false →
          (∀ e ∈ ok.after, Region.binds md e = true → e.on ≠ i) → oi.apart ops ok = true := fun k ok hk hki hu hno => by
        refine hfree k ok hk hki ?_ hno
        by_cases hjk : j = k
        · subst hjk; exact hjun
        · rw [getD_set_ne true hjk] at hu; exact hu
      refine wpOp_mono (fun a' w' h3 => ⟨h3.2.1, ih (listed.setIfInBounds j true) a' w' (inv.set hj hjn) hfree' (ready_mono hr (Ne.symm hji)) h3.1 (h3.2.1 hjn) ?_⟩) h2
      rw [Array.setIfInBounds_comm _ _ hji]
      exact h3.2.2
/-- What stands fast over a walk through such a region. -/
structure Tl (md : Region.Mode) (ops : Array Oper) (n : Nat) (listed : Array Bool) : Prop where
  sink : Region.sinkB md ops n = true
  chain : Region.chainB md ops n = true
  lt : n < ops.size
  sel : Region.noSelect ops = true
  inv : HeadInv md ops n listed
theorem takeE {listed : Array Bool} (i : Nat) {oi : Oper} {v : Value} {fuel : Nat} {a : Act} {w : World} (T : Tl md ops n listed) (hi : ops.toList[i]? = some oi) (hin : i < n)
    (hf : Region.free md ops listed i = true) (hr : (Region.ready md ops listed).contains i = true) (hQ : ∀ c a w, Q (.panic c) (a.put oi.dst v) w → Q (.panic c) a w) (hS : S w) (hy : YieldsIf P ops S oi v a)
    (h : Tl md ops n (listed.setIfInBounds i true) → wpAnyE P md ops Q S n fuel (listed.setIfInBounds i true) (a.put oi.dst v) w) : wpAnyE P md ops Q S n (fuel + 1) listed a w := by
  have hi' : ops[i]? = some oi := by rw [← Array.getElem?_toList]; exact hi
  have hr' : i ∈ Region.ready md ops listed := by simpa using hr
  exact wpAnyE_first hi' (Region.noSelect_spec T.sel) hQ T.sink T.chain T.lt hin fuel listed a w T.inv (Region.free_spec hi' hf) hr' hy hS (h ⟨T.sink, T.chain, T.lt, T.sel, T.inv.set hr' hin⟩)
theorem oneE {listed : Array Bool} (i : Nat) {o : Oper} {fuel : Nat} {a : Act} {w : World} (hi : ops.toList[i]? = some o) (hr : Region.ready md ops listed = [i])
    (h : ∀ K' : Act → World → Prop, Shut (∀ a w, (i < n → S w) → wpAnyE P md ops Q S n fuel (listed.setIfInBounds i true) a w → K' a w) → if Region.wanted o (yielded ops a.tmps) = true then Oper.wp P o a w K' Q else K' (a.put o.dst undef) w) :
    wpAnyE P md ops Q S n (fuel + 1) listed a w := by
  have hi' : ops[i]? = some o := by rw [← Array.getElem?_toList]; exact hi
  refine ⟨fun h0 => absurd (hr ▸ h0) (by simp), fun j hj => ?_⟩
  rw [hr] at hj
  obtain rfl := List.mem_singleton.1 hj
  exact wpOp_step hi' (fun K' hK => h K' (fun a w hS hW => hK a w ⟨hS, hW⟩))
theorem doneE {listed : Array Bool} {a : Act} {w : World} (hr : Region.ready md ops listed = []) (h : Q .normal a w) : ∀ fuel, wpAnyE P md ops Q S n fuel listed a w
  | 0 => ⟨hr, h⟩
  | _ + 1 => ⟨fun _ => h, by rw [hr]; simp⟩
theorem regionE (n : Nat) {id : Nat} {a : Act} {w : World} (S : World → Prop) (hm : P.follows .mixedOrders = true) (hs : Region.sinkB .any ops n = true) (hc : Region.chainB .any ops n = true) (hn : decide (n < ops.size) = true) (hsel : Region.noSelect ops = true)
    (hS : S w.drew) (h : S w.drew → Tl .any ops n (Array.replicate ops.size false) → wpAnyE P .any ops Q S n ops.size (Array.replicate ops.size false) a w.drew) : (Code.region id ops true).wp P Q a w :=
  wp_region_any hm (wpAny_of_E _ _ _ _ (h hS ⟨hs, hc, of_decide_eq_true hn, hsel, ⟨by simp, (fun j oj _ hl => by rw [getD_replicate_false] at hl; cases hl), (fun t _ ht => by simp [ht])⟩⟩))
end
end Go.Proofs.YtekajggjoeimoaaDoor
set_option linter.unusedVariables false
namespace Go.Proofs.YtekajggjoeimoaaDoor
open Go.RowKit
def More (X : Nat → Prop) (w : World) : Nat → Prop := fun k => X k ∨ w.heap.size ≤ k
section
variable {X : Nat → Prop} {w : World} {db M1 M2 : Nat} {v3 v4 : Value} {q : DQ}
theorem own_len {B e size n m c : Nat} {A : Option Addr} {xs : List Value} (h : w.ownsRow B e size (.slice A m c) n xs) : m = n := by
  rcases h.2 with ⟨h1, h2⟩ | ⟨g, cap, cur, h1, _⟩
  · cases h1; exact h2.symm
  · simp only [Value.slice.injEq] at h1; exact h1.2.1
theorem turn_any (h : DiskV X w db M1 M2 v3 v4 q) (c : Cq) (hc : okQ q.now c) (hg : c.f = none ∨ c.to = ByteArray.empty) (hm : q.chs.length ≤ 1000) :
    Calls Tryd.prog 31 #[.pointer (some ⟨db, 0, none⟩), .agg c.arr] w fun e w' => e = .returned (.tuple #[]) ∧
      (∃ v3', DiskV (More X w) w' db M1 M2 v3' v4 { q with now := (turnQ q.now q.nck c).1, nck := (turnQ q.now q.nck c).2, chs := q.chs ++ [c] }) ∧ Same FT X w w' ∧ Fr X w w' := by
  obtain ⟨Ac, cc, rfl⟩ := h.chs.form
  refine (turn_walk c h.blk h.m2 (fun W hW => dirturn_any hW hc hg) h.chs.1 hm).mono ?_
  rintro e w' ⟨rfl, w2, w3, A2, c2, hm2, ho3, hg3, hl3, rfl⟩
  have hA := (h.below ((Below.refl _ w).alloc (Nat.le_refl _) (.cells c.arr 81)))
  have hA2 : DiskV X (w.alloc (.cells c.arr 81)).drew db M1 M2 _ v4 q := hA.keep (fun _ h => h) Same.refl (fun _ _ _ _ h => h)
  have hA3 := hA2.below ((Below.refl _ _).alloc (Nat.le_refl _) (.cells c.arr 81))
  have h2 := hA3.mapTo2 hm2 (turnQ_ok h.ok2 hc)
  have h3 : DiskV X w2.drew db M1 M2 _ v4 _ := h2.keep (fun _ h => h) Same.refl (fun _ _ _ _ h => h)
  have h4 := h3.below ((Below.refl _ w2.drew).alloc (Nat.le_refl _) (.cells c.arr 81))
  have hs2 : w2.heap.size = w.heap.size + 2 := by rw [hm2.size]; simp
  have hr : RowX (More X w) w3 81 3 (.slice A2 (q.chs.length + 1) c2) (q.chs ++ [c]).length (cqcells (q.chs ++ [c])) := by
    refine ⟨?_, fun k hk => ?_⟩
    · have e1 : cqcells (q.chs ++ [c]) = cqcells q.chs ++ c.cells := by rw [cqcells_append]; simp [cqcells]
      rw [e1, List.length_append]
      exact ho3
    · rcases hl3 with hl | hl
      · rw [hl] at hk; exact .inl (h.chs.2 k hk)
      · rw [hl] at hk; cases hk; exact .inr (by omega)
  have h5 := h4.chs3 (X' := More X w) (fun k hk => .inl hk) hg3 hr
  have f1 : Fr X w ((w.alloc (.cells c.arr 81)).drew.alloc (.cells c.arr 81)) := (((Fr.refl X w).alloc _).drew).alloc _
  have f2 := hm2.frX f1 (.inr h.inX2)
  have f3 : Fr X w w3 := (f2.drew.alloc (.cells c.arr 81)).grown hg3 (fun k hk => .inr (h.chs.2 k hk))
  refine ⟨rfl, ⟨_, h5⟩, ?_, f3.setCell (p := ⟨db, 3, none⟩) (.inr h.inX) _⟩
  have s0 : Same FT X w (w.alloc (.cells c.arr 81)) := Same.of_below ((Below.refl _ w).alloc (Nat.le_refl _) _)
  have s0' : Same FT X (w.alloc (.cells c.arr 81)).drew ((w.alloc (.cells c.arr 81)).drew.alloc (.cells c.arr 81)) := Same.of_below ((Below.refl _ _).alloc (Nat.le_refl _) _)
  have s1 : Same FT X w ((w.alloc (.cells c.arr 81)).drew.alloc (.cells c.arr 81)) := s0.trans s0'
  have s2 : Same FT X _ w2 := same_map hA3.m2 hm2
  have s3 : Same FT X w2.drew (w2.drew.alloc (.cells c.arr 81)) := Same.of_below ((Below.refl _ w2.drew).alloc (Nat.le_refl _) _)
  have s4 : Same FT X _ w3 := same_grown h4.chs hg3 (by rintro (e | e) <;> cases e)
  have hb3 : Blk w3 db 64 _ := (hg3.block db h4.blk.lt (blk_apart h4.blk h4.chs (by decide))).trans h4.blk
  exact (((s1.trans s2).trans s3).trans s4).trans (same_set hb3 (by rintro (e | e) <;> cases e))
end
end Go.Proofs.YtekajggjoeimoaaDoor
set_option linter.unusedVariables false
namespace Go.Proofs.YtekajggjoeimoaaDoor
open Go.RowKit
theorem okC_split (c : UInt8) : okC c = ((decide (97 ≤ (c.toNat : Int)) && decide ((c.toNat : Int) ≤ 122)) || ((decide (48 ≤ (c.toNat : Int)) && decide ((c.toNat : Int) ≤ 57)) || ((c.toNat : Int) == 46))) := by
  unfold okC
  have e1 : decide (97 ≤ (c.toNat : Int)) = decide (97 ≤ c.toNat) := decide_eq_decide.2 (by omega)
  have e2 : decide ((c.toNat : Int) ≤ 122) = decide (c.toNat ≤ 122) := decide_eq_decide.2 (by omega)
  have e3 : decide (48 ≤ (c.toNat : Int)) = decide (48 ≤ c.toNat) := decide_eq_decide.2 (by omega)
  have e4 : decide ((c.toNat : Int) ≤ 57) = decide (c.toNat ≤ 57) := decide_eq_decide.2 (by omega)
  have e5 : ((c.toNat : Int) == 46) = decide (c.toNat = 46) := by
    rw [Bool.eq_iff_iff]; simp; omega
  rw [e1, e2, e3, e4, e5, Bool.or_assoc]
def NmRel (s : ByteArray) (W : World) (i : Value) (wr : World) : Prop := W = wr ∧ ∃ k : Nat, k ≤ s.size ∧ i = .int .i64 k ∧ ∀ j c, j < k → s.data.toList[j]? = some c → okC c = true
set_option maxHeartbeats 2000000 in
set_option maxRecDepth 100000 in
theorem isName_any (s : ByteArray) (hs : s.size ≤ 1000000) (w : World) : Calls Tryd.prog 30 #[.string s] w fun e w' => e = .returned (.bool (nameOK s)) ∧ w = w' := by
  go_enter Tryd.func30, Tryd.ntmps30
  go_wp2
  go_loopw [7] (fun i wr => NmRel s w i wr) (fun i _ => s.size - (intOf i).toNat)
  case atStart => exact ⟨rfl, 0, Nat.zero_le _, rfl, fun j c hj => by omega⟩
  case round =>
    obtain ⟨rfl, k, hk, rfl, hok⟩ := hrel
    by_cases hlt : k < s.size
    · have d1 : decide (k < s.size) = true := by simpa using hlt
      obtain ⟨c, hc⟩ : ∃ c, s.data.toList[k]? = some c := ⟨_, List.getElem?_eq_getElem (by simpa using hlt)⟩
      have hc2 : s[k]? = some c := by
        have : s.data[k]? = some c := by simpa using hc
        rw [← this]; rfl
      have i0 : (0 : Int) ≤ (k : Int) := by omega
      have i1 : (k : Int) < (s.size : Int) := by omega
      have HOK := Lib.hid hok
      clear hok
      have hg : s[k]'hlt = c := by
        have := List.getElem?_eq_some_iff.1 hc
        obtain ⟨h1, h2⟩ := this
        rw [← h2]; rfl
      have hsp := okC_split c
      have HC := Lib.hid hc
      clear hc
      obtain ⟨m, hm⟩ : ∃ m, c.toNat = m := ⟨_, rfl⟩
      have hgm : (s[k]'hlt).toNat = m := by rw [hg, hm]
      rw [hm] at hsp
      have HSP := Lib.hid hsp
      clear hsp hg hm hc2
      have hbad : okC c = false → nameOK s = false := fun h => by
        unfold nameOK
        have : s.data.toList.all okC = false := by
          cases e : s.data.toList.all okC with
          | false => rfl
          | true =>
            rw [List.all_eq_true] at e
            rw [e c (List.mem_of_getElem? HC.out)] at h
            cases h
        rw [this, Bool.and_false]
      have HB := Lib.hid hbad
      clear hbad
      have hgood : okC c = true → ∀ j d, j < k + 1 → s.data.toList[j]? = some d → okC d = true := fun h j d hj hd => by
        by_cases e : j = k
        · subst e; rw [HC.out] at hd; cases hd; exact h
        · exact HOK.out j d (by omega) hd
      have HG := Lib.hid hgood
      clear hgood
      cases e46 : ((m : Int) == 46) with
      | true =>
        have p46 : (m : Int) = 46 := by simpa using e46
        go_wp2
        all_goals first
          | (refine ⟨⟨rfl, k + 1, by omega, by go_num, HG.out (by rw [HSP.out]; simp; omega)⟩, ?_⟩; simp [intOf]; omega)
          | (go_ret; exact ⟨by rw [HB.out (by rw [HSP.out]; simp; omega)]; rfl, rfl⟩)
      | false =>
        have p46 : (m : Int) ≠ 46 := by simpa using e46
        go_wp2
        all_goals first
          | (refine ⟨⟨rfl, k + 1, by omega, by go_num, HG.out (by rw [HSP.out]; simp; omega)⟩, ?_⟩; simp [intOf]; omega)
          | (go_ret; exact ⟨by rw [HB.out (by rw [HSP.out]; simp; omega)]; rfl, rfl⟩)
    · have d1 : decide (k < s.size) = false := by simpa using hlt
      obtain rfl : k = s.size := by omega
      have hall : s.data.toList.all okC = true := by
        rw [List.all_eq_true]
        intro c hc
        obtain ⟨j, hj, he⟩ := List.getElem_of_mem hc
        exact hok j c (by simpa using hj) (by rw [List.getElem?_eq_getElem hj, he])
      have hN : nameOK s = (decide (1 ≤ s.size) && decide (s.size ≤ 16)) := by unfold nameOK; rw [hall, Bool.and_true]
      have HN := Lib.hid hN
      clear hN hall hok
      go_wp2
      all_goals
        go_ret
        refine ⟨?_, rfl⟩
        rw [HN.out]
        first
          | (show Ending.returned (Value.bool (decide ((s.size : Int) ≤ 16))) = _; refine congrArg Ending.returned (congrArg Value.bool ?_); rw [Bool.eq_iff_iff]; simp; omega)
          | (show Ending.returned (Value.bool false) = _; refine congrArg Ending.returned (congrArg Value.bool ?_); symm; simp; omega)
end Go.Proofs.YtekajggjoeimoaaDoor
set_option linter.unusedVariables false
namespace Go.Proofs.YtekajggjoeimoaaDoor
open Go.RowKit
def opCreate : ByteArray := ⟨#[99, 114, 101, 97, 116, 101]⟩
def createC (q : DQ) (nm : ByteArray) : Int :=
  if (failQ q).1 ≠ 0 then (failQ q).1 else if nameOK nm = false then 2 else if (lkF nm q.now).isSome then 40 else if 8 ≤ q.now.length then 6 else 0
/-- What a call leaves: an error, told as it must be; the disk, the files. -/
structure Left (X : Nat → Prop) (w : World) (db M1 : Nat) (fs : List Nat) (C : Nat → Bool → List ByteArray) (q : DQ) (w' : World) : Prop where
  disk : ∃ M2 v3 v4, DiskV (More X w) w' db M1 M2 v3 v4 q
  files : ∃ V, FilesV (More X w) w' fs V C
  fr : Fr X w w'
def Ends (w : World) (op nm : ByteArray) (k : Int) (e : Ending) (w' : World) : Prop := ∃ v, e = .returned v ∧ ErrAt w' op nm k v
section
variable {X : Nat → Prop} {w w1 w2 : World} {db M1 M2 : Nat} {v3 v4 : Value} {q q' : DQ} {fs : List Nat} {V : Nat → Bool → Value} {C : Nat → Bool → List ByteArray}
theorem more_left {k : Nat} (h : X k) : More X w k := .inl h
theorem Near.fr' (h : Near X db w w1) (hx : X db) : Fr X w w1 := h.fr.mono (fun k _ e => by rw [e]; exact hx)
/-- A call that did nothing but refuse. -/
theorem left_near (hD : DiskV X w1 db M1 M2 v3 v4 q) (hF : FilesV X w fs V C) (hN : Near X db w w1) (hb : Below w1.heap.size w1 w2) : Left X w db M1 fs C q w2 :=
  ⟨⟨M2, v3, v4, (hD.below hb).keep (fun _ => more_left) Same.refl (fun _ _ _ _ h => h)⟩, ⟨V, hF.keep (fun _ => more_left) (hN.files.trans (Same.of_below hb))⟩, (hN.fr' hD.inX).trans (Fr.of_below hb)⟩
theorem failQ_chs (q : DQ) : (failQ q).2.chs = q.chs := by unfold failQ; split <;> (try split) <;> rfl
theorem failQ_nck (q : DQ) : (failQ q).2.nck = q.nck := by unfold failQ; split <;> (try split) <;> rfl
theorem failQ_wrs (q : DQ) : (failQ q).2.wrs = q.wrs := by unfold failQ; split <;> (try split) <;> rfl
theorem failQ_dir (q : DQ) : (failQ q).2.dir = q.dir ∧ (failQ q).2.dck = q.dck ∧ (failQ q).2.room = q.room := by unfold failQ; split <;> (try split) <;> exact ⟨rfl, rfl, rfl⟩
set_option maxHeartbeats 1000000 in
set_option maxRecDepth 100000 in
theorem Create_no (hF : FilesV X w fs V C) (h : DiskV X w db M1 M2 v3 v4 q) (ha : q.after ≤ 9223372036854775807) (nm : ByteArray) (hs : nm.size ≤ 1000000) (hk : createC q nm ≠ 0) :
    Calls Tryd.prog 11 #[.pointer (some ⟨db, 0, none⟩), .string nm] w fun e w' => Ends w opCreate nm (createC q nm) e w' ∧ Left X w db M1 fs C (failQ q).2 w' := by
  obtain ⟨w1, hR, hD, hN⟩ := refuses_any h ha
  unfold createC at hk ⊢
  by_cases hc : (failQ q).1 = 0
  · rw [if_neg (by simpa using hc)] at hk ⊢
    rw [hc] at hR
    have hI := isName_any nm hs w1
    have hm2 := hD.m2
    have hb := hD.blk
    rw [failQ_now] at hm2
    have q2 : w1.cell? ⟨db, 2, none⟩ = some (.map (some M2)) := hb.cell 2
    cases hn : nameOK nm with
    | false =>
      rw [if_pos rfl]
      rw [hn] at hI
      go_enter Tryd.func11, Tryd.ntmps11
      go_wp2_with (first
        | (go_at_call 26; refine hR.mono ?_; rintro e w9 ⟨rfl, h9⟩; obtain rfl : w1 = w9 := h9.symm)
        | (go_at_call 30; refine hI.mono ?_; rintro e w8 ⟨rfl, rfl⟩)
        | (go_at_call 23; refine (fault_any _ _ _ _).mono ?_; rintro e w7 ⟨⟨v, rfl, hv⟩, hb7⟩))
      go_ret
      exact ⟨⟨v, rfl, hv⟩, left_near hD hF hN hb7⟩
    | true =>
      rw [hn] at hI hk
      rw [if_neg (by simp)] at hk ⊢
      cases hl : look nm q.now 0 with
      | some r =>
        obtain ⟨j, y⟩ := r
        have hl' : (lkF nm q.now).isSome = true := by unfold lkF; rw [hl]; rfl
        rw [if_pos hl']
        go_enter Tryd.func11, Tryd.ntmps11
        go_wp2_with (first
          | (go_at_call 26; refine hR.mono ?_; rintro e w9 ⟨rfl, h9⟩; obtain rfl : w1 = w9 := h9.symm)
          | (go_at_call 30; refine hI.mono ?_; rintro e w8 ⟨rfl, rfl⟩)
          | (at_lookup; refine wpList_look1 rfl _ _ rfl rfl rfl hm2 hl ?_)
          | (go_at_call 23; refine (fault_any _ _ _ _).mono ?_; rintro e w7 ⟨⟨v, rfl, hv⟩, hb7⟩))
        go_ret
        exact ⟨⟨v, rfl, hv⟩, left_near hD hF hN hb7⟩
      | none =>
        have hl' : (lkF nm q.now).isSome = false := by unfold lkF; rw [hl]; rfl
        rw [if_neg (by rw [hl']; simp)] at hk ⊢
        by_cases h8 : 8 ≤ q.now.length
        · rw [if_pos h8]
          have d8 : decide ((8 : Int) ≤ (q.now.length : Int)) = true := by simp; omega
          go_enter Tryd.func11, Tryd.ntmps11
          go_wp2_with (first
            | (go_at_call 26; refine hR.mono ?_; rintro e w9 ⟨rfl, h9⟩; obtain rfl : w1 = w9 := h9.symm)
            | (go_at_call 30; refine hI.mono ?_; rintro e w8 ⟨rfl, rfl⟩)
            | (at_lookup; refine wpList_look1_none rfl _ _ rfl rfl rfl hm2 hl ?_)
            | (at_len; refine wpList_maplen rfl _ rfl rfl hm2 ?_)
            | (go_at_call 23; refine (fault_any _ _ _ _).mono ?_; rintro e w7 ⟨⟨v, rfl, hv⟩, hb7⟩))
          go_ret
          exact ⟨⟨v, rfl, hv⟩, left_near hD hF hN hb7⟩
        · rw [if_neg h8] at hk; exact absurd rfl hk
  · rw [if_pos hc]
    have hc' : ((failQ q).1 != 0) = true := by simpa using hc
    go_enter Tryd.func11, Tryd.ntmps11
    go_wp2_with (first
      | (go_at_call 26; refine hR.mono ?_; rintro e w9 ⟨rfl, h9⟩; obtain rfl : w1 = w9 := h9.symm)
      | (go_at_call 23; refine (fault_any _ _ _ _).mono ?_; rintro e w7 ⟨⟨v, rfl, hv⟩, hb7⟩))
    go_ret
    exact ⟨⟨v, rfl, hv⟩, left_near hD hF hN hb7⟩
set_option maxHeartbeats 2000000 in
set_option maxRecDepth 100000 in
theorem Create_go (hF : FilesV X w fs V C) (h : DiskV X w db M1 M2 v3 v4 q) (ha : q.after ≤ 9223372036854775807) (nm : ByteArray) (hs : nm.size ≤ 1000000) (hk : createC q nm = 0) (hm : q.chs.length ≤ 1000) :
    Calls Tryd.prog 11 #[.pointer (some ⟨db, 0, none⟩), .string nm] w fun e w' => Ends w opCreate nm 0 e w' ∧ ∃ f, w.heap.size ≤ f ∧
      Left X w db M1 (f :: fs) (fun g b => if g = f then [] else C g b) { (failQ q).2 with now := q.now ++ [⟨nm, f, q.nck⟩], nck := q.nck + 1, chs := q.chs ++ [⟨nm, ByteArray.empty, some f⟩] } w' := by
  obtain ⟨w1, hR, hD, hN⟩ := refuses_any h ha
  unfold createC at hk
  by_cases hc : (failQ q).1 = 0
  · rw [if_neg (by simpa using hc)] at hk
    rw [hc] at hR
    have hI := isName_any nm hs w1
    cases hn : nameOK nm with
    | false => rw [hn] at hk; cases hk
    | true =>
      rw [hn] at hk hI
      rw [if_neg (by simp)] at hk
      cases hl : look nm q.now 0 with
      | some r =>
        have hl' : (lkF nm q.now).isSome = true := by unfold lkF; rw [hl]; rfl
        rw [if_pos hl'] at hk; cases hk
      | none =>
        have hl0 : lkF nm q.now = none := by unfold lkF; rw [hl]; rfl
        rw [if_neg (by rw [hl0]; simp)] at hk
        by_cases h8 : 8 ≤ q.now.length
        · rw [if_pos h8] at hk; cases hk
        · have hm2 := hD.m2
          have hb := hD.blk
          rw [failQ_now] at hm2
          have q2 : w1.cell? ⟨db, 2, none⟩ = some (.map (some M2)) := hb.cell 2
          have d8 : decide ((8 : Int) ≤ (q.now.length : Int)) = false := by simp; omega
          have hF1 : FilesV X w1 fs V C := hF.keep (fun _ h => h) hN.files
          have hF2 := hF1.new (X' := More X w) (fun _ => more_left) (.inr (by rw [hN.size]; exact Nat.le_refl _))
          have hbW : Below w1.heap.size w1 (w1.alloc (.cells #[.slice none 0 0, .slice none 0 0] 79)) := (Below.refl _ _).alloc (Nat.le_refl _) _
          have hD2 := (hD.below hbW).keep (X' := More X w) (fun _ => more_left) Same.refl (fun _ _ _ _ h => h)
          have hnow : (failQ q).2.now = q.now := failQ_now q
          have hT := turn_any hD2 ⟨nm, ByteArray.empty, some w1.heap.size⟩ (by show lkF nm (failQ q).2.now = none; rw [hnow]; exact hl0) (.inr rfl) (by rw [failQ_chs]; exact hm)
          change Calls Tryd.prog 31 #[.pointer (some ⟨db, 0, none⟩), .agg #[.string nm, .string ⟨#[]⟩, .pointer (some ⟨w1.heap.size, 0, none⟩)]] (w1.alloc (.cells #[.slice none 0 0, .slice none 0 0] 79)) _ at hT
          have HT := Lib.hid hT
          clear hT
          go_enter Tryd.func11, Tryd.ntmps11
          go_wp2_with (first
            | (go_at_call 26; refine hR.mono ?_; rintro e w9 ⟨rfl, h9⟩; obtain rfl : w1 = w9 := h9.symm)
            | (go_at_call 30; refine hI.mono ?_; rintro e w8 ⟨rfl, rfl⟩)
            | (at_lookup; refine wpList_look1_none rfl _ _ rfl rfl rfl hm2 hl ?_)
            | (at_len; refine wpList_maplen rfl _ rfl rfl hm2 ?_)
            | (go_at_call 31; refine HT.out.mono ?_; rintro e w3 ⟨rfl, ⟨v3', hD3⟩, hS3, hf3⟩)
            | (go_at_call 23; refine (fault_any _ _ _ _).mono ?_; rintro e w7 ⟨⟨v, rfl, hv⟩, hb7⟩))
          go_ret
          refine ⟨⟨v, rfl, hv⟩, w1.heap.size, by rw [hN.size]; exact Nat.le_refl _, ?_⟩
          have hmm : ∀ k, More (More X w) (w1.alloc (.cells #[.slice none 0 0, .slice none 0 0] 79)) k → More X w k := fun k hk => hk.elim id (fun h => .inr (by have := hbW.size; have := hN.size; omega))
          have hD4 := (hD3.below hb7).keep hmm Same.refl (fun _ _ _ _ h => h)
          unfold turnQ at hD4
          simp only [hnow, failQ_nck, failQ_chs] at hD4
          refine ⟨⟨_, _, _, hD4⟩, ⟨_, hF2.keep (fun _ h => h) (hS3.trans (Same.of_below hb7))⟩, ?_⟩
          have f1 : Fr X w w1 := hN.fr' hD.inX
          have f2 : Fr X w (w1.alloc (.cells #[.slice none 0 0, .slice none 0 0] 79)) := f1.alloc _
          have f3 : Fr X w w3 := ⟨hf3.os.trans f2.os, hf3.tape.trans f2.tape, hf3.output.trans f2.output, Nat.le_trans f2.size hf3.size, fun k hk hx => (hf3.block k (Nat.lt_of_lt_of_le hk f2.size) (fun hm => hm.elim hx (fun h => by omega))).trans (f2.block k hk hx)⟩
          exact f3.trans (Fr.of_below hb7)
  · rw [if_pos hc] at hk; exact absurd hk hc
end
end Go.Proofs.YtekajggjoeimoaaDoor
set_option linter.unusedVariables false
namespace Go.Proofs.YtekajggjoeimoaaDoor
open Go.RowKit
def opSyncDir : ByteArray := ⟨#[115, 121, 110, 99, 100, 105, 114]⟩
set_option maxHeartbeats 2000000 in
set_option maxRecDepth 100000 in
theorem MClone_any {M clock : Nat} {es : Array MapEntry} {w : World} (hb : w.heap[M]? = some (.map es clock)) :
    Calls Tryd.prog 27 #[.map (some M)] w fun e w' => e = .returned (.map (some w.heap.size)) ∧ w' = w.alloc (.map es clock) := by
  have hq := fun w => run_eql_map_nil_sl (P := Tryd.prog) w 60 _ _ (some M) Tryd.underlying60
  go_enter Tryd.func27, Tryd.ntmps27
  go_wp2
  rw [run_callFunc_extern Tryd.func48 (by kernel_rfl) (by kernel_rfl) (by kernel_rfl) (e := Extern.MapsClone.clone) (by kernel_rfl), run_maps_clone_sl w 60 hb]
  simp only [Result.andThen]
  rw [Oper.upon_value]
  go_wp2
  rw [run_typeAssert_map_sl _ 60 20 _ _ _ Tryd.underlying60]
  simp only [Result.andThen]
  rw [Oper.upon_value]
  go_wp2
  go_ret
  exact ⟨rfl, rfl⟩
def syncdirC (q : DQ) : Int := (failQ q).1
section
variable {X : Nat → Prop} {w w1 w2 : World} {db M1 M2 : Nat} {v3 v4 : Value} {q q' : DQ} {fs : List Nat} {V : Nat → Bool → Value} {C : Nat → Bool → List ByteArray}
set_option maxHeartbeats 2000000 in
set_option maxRecDepth 100000 in
theorem SyncDir_no (hF : FilesV X w fs V C) (h : DiskV X w db M1 M2 v3 v4 q) (ha : q.after ≤ 9223372036854775807) (hk : (failQ q).1 ≠ 0) :
    Calls Tryd.prog 9 #[.pointer (some ⟨db, 0, none⟩)] w fun e w' => Ends w opSyncDir ByteArray.empty (failQ q).1 e w' ∧ Left X w db M1 fs C (failQ q).2 w' := by
  obtain ⟨w1, hR, hD, hN⟩ := refuses_any h ha
  have hc' : ((failQ q).1 == 0) = false := by simpa using hk
  have hc'' : ((failQ q).1 != 0) = true := by simpa using hk
  go_enter Tryd.func9, Tryd.ntmps9
  go_wp2_with (first
    | (go_at_call 26; refine hR.mono ?_; rintro e w9 ⟨rfl, h9⟩; obtain rfl : w1 = w9 := h9.symm)
    | (go_at_call 23; refine (fault_any _ _ _ _).mono ?_; rintro e w7 ⟨⟨v, rfl, hv⟩, hb7⟩))
  go_ret
  exact ⟨⟨v, rfl, hv⟩, left_near hD hF hN hb7⟩
/-- The directory that is safe is another one; no change is pending. -/
theorem DiskV.syncd (h : DiskV X w db M1 M2 v3 v4 q) : DiskV (More X w) (((w.alloc (.map (q.now.map DE.ent).toArray q.nck)).setCell ⟨db, 1, none⟩ (.map (some w.heap.size))).setCell ⟨db, 3, none⟩ (.slice none 0 0)) db w.heap.size M2 (.slice none 0 0) v4 { q with dir := q.now, dck := q.nck, chs := [] } := by
  have hA := (h.below ((Below.refl _ w).alloc (Nat.le_refl _) (.map (q.now.map DE.ent).toArray q.nck)))
  have hlt := h.blk.lt
  have hM2 := (Array.getElem?_eq_some_iff.1 h.m2).1
  have hnew := heap_alloc_new w (.map (q.now.map DE.ent).toArray q.nck)
  have hb1 := hA.blk.set_ 1 (.map (some w.heap.size))
  have hoth : ∀ k, k ≠ db → (((w.alloc (.map (q.now.map DE.ent).toArray q.nck)).setCell ⟨db, 1, none⟩ (.map (some w.heap.size))).setCell ⟨db, 3, none⟩ (.slice none 0 0)).heap[k]? = (w.alloc (.map (q.now.map DE.ent).toArray q.nck)).heap[k]? := fun k hk => (Below.heap_setCell _ _ _ _ hk).trans (Below.heap_setCell _ _ _ _ hk)
  have hw3 := row_set (o := 3) (u := .slice none 0 0) hb1 (by decide) (row_set (o := 1) (u := .map (some w.heap.size)) hA.blk (by decide) hA.wrs)
  refine h.cells (X' := More X w) (fun _ => more_left) (q' := { q with dir := q.now, dck := q.nck, chs := [] }) (hb1.set_ 3 (.slice none 0 0)) ((hoth _ (by omega)).trans hnew) ((hoth _ h.m2_ne).trans hA.m2) (by show w.heap.size ≠ M2; omega) (.inr (Nat.le_refl _)) (more_left h.inX2) h.ok2 h.ok2 RowX.nil (hw3.keep (fun k cs _ _ h => h) (fun _ => more_left))
set_option maxHeartbeats 2000000 in
set_option maxRecDepth 100000 in
theorem SyncDir_go (hF : FilesV X w fs V C) (h : DiskV X w db M1 M2 v3 v4 q) (ha : q.after ≤ 9223372036854775807) (hk : (failQ q).1 = 0) :
    Calls Tryd.prog 9 #[.pointer (some ⟨db, 0, none⟩)] w fun e w' => Ends w opSyncDir ByteArray.empty 0 e w' ∧ Left X w db w.heap.size fs C { (failQ q).2 with dir := q.now, dck := q.nck, now := q.now, nck := q.nck, chs := [] } w' := by
  obtain ⟨w1, hR, hD, hN⟩ := refuses_any h ha
  rw [hk] at hR
  have hb := hD.blk
  have q2 : w1.cell? ⟨db, 2, none⟩ = some (.map (some M2)) := hb.cell 2
  have bA := hb.alloc (.map ((failQ q).2.now.map DE.ent).toArray (failQ q).2.nck)
  have c1 := bA.cell 1
  have c3 := bA.cell 3
  have f1 := bA.frozen 1
  have f3 := bA.frozen 3
  have hS := hD.syncd
  have HS := Lib.hid hS
  clear hS
  go_enter Tryd.func9, Tryd.ntmps9
  go_wp2_with (first
    | (go_at_call 26; refine hR.mono ?_; rintro e w9 ⟨rfl, h9⟩; obtain rfl : w1 = w9 := h9.symm)
    | (go_at_call 27; refine (MClone_any hD.m2).mono ?_; rintro e w8 ⟨rfl, rfl⟩)
    | (go_at_call 23; refine (fault_any _ _ _ _).mono ?_; rintro e w7 ⟨⟨v, rfl, hv⟩, hb7⟩))
  go_ret
  have hS := HS.out
  rw [failQ_now, failQ_nck] at hS hb7
  rw [hN.size] at hS hb7
  have hmm : ∀ k, More X w1 k → More X w k := fun k hk => hk.elim .inl (fun h => .inr (by have := hN.size; omega))
  refine ⟨⟨v, rfl, hv⟩, ⟨_, _, _, (hS.below hb7).keep hmm Same.refl (fun _ _ _ _ h => h)⟩, ⟨V, hF.keep (fun _ => more_left) ?_⟩, ?_⟩
  · have s1 : Same FT X w1 (w1.alloc (.map (q.now.map DE.ent).toArray q.nck)) := Same.of_below ((Below.refl _ _).alloc (Nat.le_refl _) _)
    rw [failQ_now, failQ_nck] at bA
    have s2 := same_set (T := FT) (X := X) (o := 1) (u := .map (some w.heap.size)) bA (by rintro (e | e) <;> cases e)
    have s3 := same_set (T := FT) (X := X) (o := 3) (u := .slice none 0 0) (bA.set_ 1 (.map (some w.heap.size))) (by rintro (e | e) <;> cases e)
    exact (((hN.files.trans s1).trans s2).trans s3).trans (Same.of_below hb7)
  · have f1 : Fr X w w1 := hN.fr' hD.inX
    exact (((f1.alloc _).setCell (p := ⟨db, 1, none⟩) (.inr hD.inX) _).setCell (p := ⟨db, 3, none⟩) (.inr hD.inX) _).trans (Fr.of_below hb7)
end
end Go.Proofs.YtekajggjoeimoaaDoor
set_option linter.unusedVariables false
namespace Go.Proofs.YtekajggjoeimoaaDoor
open Go.RowKit
open Go.ChangeMaps (setBlock)
def seenL (l : List DE) (seen : Array Nat) : List DE := l.filter fun x => seen.contains x.born
theorem seenL_other (seen : Array Nat) (b : Nat) : ∀ (l : List DE), b ∉ l.map DE.born → seenL l (seen.push b) = seenL l seen
  | [], _ => rfl
  | y :: l, h => by
    unfold seenL
    rw [List.filter_cons, List.filter_cons, contains_push]
    have h1 : (y.born == b) = false := by simp at h ⊢; exact fun e => h.1 e.symm
    rw [h1, Bool.or_false]
    have := seenL_other seen b l (fun hm => h (by simp at hm ⊢; exact .inr hm))
    unfold seenL at this
    rw [this]
theorem seenL_push (seen : Array Nat) (x : DE) (hs : seen.contains x.born = false) : ∀ (l : List DE), (l.map DE.born).Nodup → x ∈ l → (seenL l (seen.push x.born)).Perm (x :: seenL l seen)
  | [], _, h => by cases h
  | y :: l, hn, h => by
    obtain ⟨h1, h2⟩ := List.nodup_cons.1 hn
    have e1 : ∀ s, seenL (y :: l) s = if s.contains y.born then y :: seenL l s else seenL l s := fun s => by
      unfold seenL; rw [List.filter_cons]
    rw [e1, e1, contains_push]
    rcases List.mem_cons.1 h with rfl | h
    · rw [hs]
      simp only [BEq.rfl, Bool.or_true, if_true, Bool.false_eq_true, if_false]
      rw [seenL_other seen _ l h1]
    · have hne : (y.born == x.born) = false := by
        rw [beq_eq_false_iff_ne]
        exact fun e => h1 (List.mem_map.2 ⟨x, h, e.symm⟩)
      rw [hne, Bool.or_false]
      have ih := seenL_push seen x hs l h2 h
      split
      · exact (ih.cons y).trans (List.Perm.swap x y _)
      · exact ih
theorem seenL_all (l : List DE) (seen : Array Nat) (h : (leftOf (l.map DE.ent).toArray seen).size = 0) : seenL l seen = l := by
  unfold seenL
  rw [List.filter_eq_self]
  intro x hx
  have := all_seen _ _ h x.ent (by simp; exact ⟨x, hx, rfl⟩)
  exact this
/-- An entry that is left. -/
theorem left_ent {l : List DE} {seen : Array Nat} {e : MapEntry} (h : e ∈ (leftOf (l.map DE.ent).toArray seen).toList) : ∃ x ∈ l, e = x.ent ∧ seen.contains x.born = false := by
  obtain ⟨h1, h2⟩ := mem_left h
  simp at h1
  obtain ⟨x, hx, rfl⟩ := h1
  exact ⟨x, hx, rfl, h2⟩
theorem map_born (l : List DE) : ((l.map DE.ent).toArray.toList.map (·.born)) = l.map DE.born := by simp [Function.comp_def]; intro x hx; rfl
theorem MapOK.born_nodup {l : List DE} {ck : Nat} (h : MapOK l ck) : (l.map DE.born).Nodup := by
  rw [List.Nodup, List.pairwise_map]
  exact h.order.imp fun hlt => Nat.ne_of_lt hlt
theorem MapOK.hold {l : List DE} {ck : Nat} (h : MapOK l ck) : ∀ x ∈ (l.map DE.ent).toArray.toList, x.born < ck := by
  intro x hx
  simp at hx
  obtain ⟨y, hy, rfl⟩ := hx
  exact h.born y hy
/-- An iterator over a map. -/
def ItAt (w : World) (r M : Nat) (l : List DE) (ck : Nat) (seen : Array Nat) : Prop := w.heap[r]? = some (.mapIter (some M) ck seen ck) ∧ w.heap[M]? = some (.map (l.map DE.ent).toArray ck)
theorem setBlock_heap (w : World) (r : Nat) (o : Obj) (k : Nat) (h : k ≠ r) : (setBlock w r o).heap[k]? = w.heap[k]? := by
  unfold setBlock
  exact Array.getElem?_setIfInBounds_ne (Ne.symm h)
theorem setBlock_at (w : World) (r : Nat) (o : Obj) (h : r < w.heap.size) : (setBlock w r o).heap[r]? = some o := by
  unfold setBlock
  simp [h]
theorem below_setBlock {B : Nat} {w w1 : World} {r : Nat} {o : Obj} (hb : Below B w w1) (hr : B ≤ r) : Below B w (setBlock w1 r o) :=
  ⟨hb.os, hb.tape, hb.output, by unfold setBlock; simpa using hb.size, fun k hk => (setBlock_heap w1 r o k (by omega)).trans (hb.block k hk)⟩
/-- A step of the loop: no entry is left, or one comes. -/
theorem it_step {w : World} {r M : Nat} {l : List DE} {ck : Nat} {seen : Array Nat} (h : ItAt w r M l ck seen) (ho : MapOK l ck) :
    ((leftOf (l.map DE.ent).toArray seen).size = 0 ∧ ∀ ty, (Instr.next (.pointer (some ⟨r, 0, none⟩)) false ty).run Tryd.prog w = .ok (.tuple #[.bool false]) w) ∨
    ∃ x ∈ l, seen.contains x.born = false ∧ (leftOf (l.map DE.ent).toArray (seen.push x.born)).size < (leftOf (l.map DE.ent).toArray seen).size ∧ ∃ w1 : World, (∀ ty, (Instr.next (.pointer (some ⟨r, 0, none⟩)) false ty).run Tryd.prog w = .ok (.tuple #[.bool true, .string x.nm, x.val]) w1) ∧
      (∀ W : World, ItAt W r M l ck (seen.push x.born) → (Instr.entry (.pointer (some ⟨r, 0, none⟩))).run Tryd.prog W = .ok (.tuple #[.string x.nm, x.val]) W) ∧ ItAt w1 r M l ck (seen.push x.born) ∧ w1.os = w.os ∧ w1.tape = w.tape ∧ w1.output = w.output ∧ w1.heap.size = w.heap.size ∧ ∀ k, k ≠ r → w1.heap[k]? = w.heap[k]? := by
  obtain ⟨h1, h2⟩ := h
  have hlt := (Array.getElem?_eq_some_iff.1 h1).1
  have hne : M ≠ r := fun e => by subst e; rw [h1] at h2; cases h2
  by_cases h0 : (leftOf (l.map DE.ent).toArray seen).size = 0
  · refine .inl ⟨h0, fun ty => ?_⟩
    rcases run_next_at (P := Tryd.prog) w ty r M ck ck seen _ ck h1 h2 ho.hold (Nat.le_refl _) with ⟨_, hr⟩ | ⟨e, he, _⟩
    · exact hr
    · exact absurd (Array.size_pos_of_mem (Array.mem_toList_iff.1 he)) (by omega)
  · rcases run_next_at (P := Tryd.prog) w 0 r M ck ck seen _ ck h1 h2 ho.hold (Nat.le_refl _) with ⟨h3, _⟩ | ⟨e, he, w1, hw1, hr⟩
    · exact absurd h3 h0
    · obtain ⟨x, hx, rfl, hs⟩ := left_ent he
      refine .inr ⟨x, hx, hs, left_shrinks _ seen _ he, setBlock w1 r (.mapIter (some M) ck (seen.push x.born) ck), fun ty => hr, fun W hW => ?_, ?_, ?_⟩
      · exact run_entry_at (P := Tryd.prog) W r M ck seen _ ck x.ent hW.1 hW.2 (by simp; exact ⟨x, hx, rfl⟩) (by rw [map_born]; exact ho.born_nodup)
      · rcases hw1 with rfl | rfl
        · exact ⟨setBlock_at _ _ _ hlt, (setBlock_heap _ _ _ _ hne).trans h2⟩
        · exact ⟨setBlock_at _ _ _ hlt, (setBlock_heap _ _ _ _ hne).trans h2⟩
      · rcases hw1 with rfl | rfl
        · exact ⟨rfl, rfl, rfl, by unfold setBlock; simp, fun k hk => setBlock_heap _ _ _ k hk⟩
        · exact ⟨rfl, rfl, rfl, by show (w.heap.setIfInBounds _ _).size = w.heap.size; simp, fun k hk => setBlock_heap _ _ _ k hk⟩
theorem ItAt.seen {w : World} {r M : Nat} {l : List DE} {ck : Nat} {seen : Array Nat} (h : ItAt w r M l ck seen) : w.iterSeen r = seen := by
  unfold World.iterSeen; rw [h.1]
def lens (C : Nat → Bool → List ByteArray) (l : List DE) : Nat := (l.map fun x => (C x.f true).length).sum
theorem lens_perm {C : Nat → Bool → List ByteArray} {l m : List DE} (h : l.Perm m) : lens C l = lens C m := (h.map _).sum_nat
theorem lens_le {C : Nat → Bool → List ByteArray} {B : Nat} : ∀ {l : List DE}, (∀ x ∈ l, (C x.f true).length ≤ B) → lens C l ≤ l.length * B
  | [], _ => by simp [lens]
  | x :: l, h => by
    have h1 := h x List.mem_cons_self
    have h2 := lens_le (l := l) (fun y hy => h y (List.mem_cons_of_mem _ hy))
    have e : lens C (x :: l) = (C x.f true).length + lens C l := by simp [lens]
    rw [e, List.length_cons, Nat.add_mul]; omega
def UsedRel (C : Nat → Bool → List ByteArray) (W : World) (r M : Nat) (l : List DE) (ck : Nat) (n : Value) (wr : World) : Prop := ∃ seen, ItAt wr r M l ck seen ∧ n = .int .i64 (lens C (seenL l seen)) ∧ Below W.heap.size W wr
set_option maxHeartbeats 2000000 in
set_option maxRecDepth 100000 in
theorem used_any {X : Nat → Prop} {w : World} {db M1 M2 : Nat} {v3 v4 : Value} {q : DQ} {fs : List Nat} {V : Nat → Bool → Value} {C : Nat → Bool → List ByteArray} (hF : FilesV X w fs V C) (h : DiskV X w db M1 M2 v3 v4 q)
    (hfs : ∀ x ∈ q.now, x.f ∈ fs) (hn : q.now.length ≤ 8) (hc : ∀ x ∈ q.now, (C x.f true).length ≤ 4096) :
    Calls Tryd.prog 33 #[.pointer (some ⟨db, 0, none⟩)] w fun e w' => e = .returned (.int .i64 (lens C q.now)) ∧ Below w.heap.size w w' := by
  have c2 : w.cell? ⟨db, 2, none⟩ = some (.map (some M2)) := h.blk.cell 2
  have hrg := run_range_map (P := Tryd.prog) w 60 _ _ M2 _ q.nck Tryd.underlying60 h.m2
  have hle := lens_le (C := C) (B := 4096) hc
  have hM := (Array.getElem?_eq_some_iff.1 h.m2).1
  go_enter Tryd.func33, Tryd.ntmps33
  go_wp2
  go_loopw [2] (fun n wr => UsedRel C w w.heap.size M2 q.now q.nck n wr) (fun _ wr => (leftOf (q.now.map DE.ent).toArray (wr.iterSeen w.heap.size)).size)
  case atStart =>
    refine ⟨#[], ⟨heap_alloc_new w _, (Below.heap_alloc _ _ _ hM).trans h.m2⟩, ?_, (Below.refl _ _).alloc (Nat.le_refl _) _⟩
    rw [show seenL q.now #[] = [] from List.filter_eq_nil_iff.2 (fun x _ => by simp)]; rfl
  case round =>
    obtain ⟨seen, hit, rfl, hB⟩ := hrel
    rcases it_step hit h.ok2 with ⟨h0, hnx⟩ | ⟨x, hx, hs, hsm, w1, hnx, hen, hit1, ho, ht, hu, hsz, hbl⟩
    · have e0 := seenL_all q.now seen h0
      go_wp2
      go_ret
      exact ⟨by rw [e0]; rfl, hB⟩
    · have hB1 : Below w.heap.size w w1 := ⟨ho.trans hB.os, ht.trans hB.tape, hu.trans hB.output, by rw [hsz]; exact hB.size, fun k hk => (hbl k (by omega)).trans (hB.block k hk)⟩
      have hen1 := hen w1 hit1
      clear hen
      obtain ⟨A, c, hV⟩ := (hF.row x.f (hfs x hx) true).form
      have hfb : Blk w1 x.f 79 _ := (hB1.block _ (hF.blk x.f (hfs x hx)).lt).trans (hF.blk x.f (hfs x hx))
      have k1 : w1.cell? ⟨x.f, 1, none⟩ = some (.slice A (C x.f true).length c) := by rw [hfb.cell 1, ← hV]; rfl
      have hp := lens_perm (C := C) (seenL_push seen x hs q.now h.ok2.born_nodup hx)
      have e1 : lens C (x :: seenL q.now seen) = (C x.f true).length + lens C (seenL q.now seen) := by simp [lens]
      have h3 : lens C (seenL q.now (seen.push x.born)) ≤ 8 * 4096 := by
        refine Nat.le_trans (lens_le (B := 4096) (fun y hy => hc y (List.mem_filter.1 hy).1)) (Nat.mul_le_mul_right _ (Nat.le_trans (List.length_filter_le _ _) hn))
      unfold DE.val at hnx hen1
      go_wp2
      go_roundw
      case rel => exact ⟨seen.push x.born, hit1, by rw [hp, e1]; go_num, hB1⟩
      case measure =>
        rw [hit1.seen, hit.seen]
        exact hsm
end Go.Proofs.YtekajggjoeimoaaDoor
set_option linter.unusedVariables false
namespace Go.Proofs.YtekajggjoeimoaaDoor
open Go.RowKit
set_option maxHeartbeats 1000000 in
set_option maxRecDepth 100000 in
theorem Mul64_one (y : Nat) (hy : y ≤ 1000000) (w : World) : Calls Tryd.prog 62 #[.int .u64 1, .int .u64 y] w fun e w' => e = .returned (.tuple #[.int .u64 0, .int .u64 y]) ∧ w = w' := by
  have m1 : bits .and .u64 1 4294967295 = 1 := Mul64.maskN 1 (by omega)
  have m2 : bits .and .u64 (y : Int) 4294967295 = (y : Int) := by rw [Mul64.maskN y (by omega)]; omega
  have e1 : (y : Int) / 4294967296 = 0 := by omega
  have e2 : bits .and .u64 0 4294967295 = 0 := Mul64.maskN 0 (by omega)
  have e3 : IntKind.u64.wrap (y : Int) = (y : Int) := by rw [IntKind.wrap_u64]; omega
  go_enter Tryd.func62, Tryd.ntmps62
  go_wp2
  go_ret2
  exact ⟨rfl, rfl⟩
set_option maxHeartbeats 1000000 in
set_option maxRecDepth 100000 in
theorem Mul_one (y : Nat) (hy : y ≤ 1000000) (w : World) : Calls Tryd.prog 53 #[.int .u64 1, .int .u64 y] w fun e w' => e = .returned (.tuple #[.int .u64 0, .int .u64 y]) ∧ w = w' := by
  go_enter Tryd.func53, Tryd.ntmps53
  go_wp2_with (go_at_call 62; refine (Mul64_one y hy w).mono ?_; rintro e w1 ⟨rfl, rfl⟩)
  go_ret2
  exact ⟨rfl, rfl⟩
theorem step_copy {P : Program} {w w' : World} {ops : Array Oper} {o : Oper} {a : Act} {K : Act → World → Prop} {Q : Exit → Act → World → Prop} {E : Prop} (hgd : o.guard = none) (d s : Operand) (t : TypeId)
    (ho : o.op = .call { callee := .builtin .copy, args := #[d, s], argTypes := #[t, t] }) (vd vs : Value) (hd : a.eval d = vd) (hs : a.eval s = vs) (n : Int)
    (hrun : ∀ ty, (Builtin.copy_ #[t, t] ty #[vd, vs]).run P w = .ok (.int .i64 n) w') (h : K (a.put o.dst (.int .i64 n)) w') :
    if Region.wanted o (yielded ops a.tmps) = true then Oper.wp P o a w K Q else E := by
  have hw : Region.wanted o (yielded ops a.tmps) = true := by simp [Region.wanted, hgd]
  rw [if_pos hw]
  unfold Oper.wp execOp
  simp only [ho, resolve, invoke, builtin, Sem.run_bind, Sem.run_pure, Result.andThen_ok, List.map_toArray, List.map_cons, List.map_nil, hd, hs, hrun]
  exact h
/-- The first k cells hold s. -/
def Full (w : World) (g n k : Nat) (s : ByteArray) : Prop := ∃ cur, Blk w g 86 cur ∧ cur.size = n ∧ ∀ j, j < k → cur[j]? = some (.string s)
theorem Full.step {w w' : World} {g n k m : Nat} {s : ByteArray} {cur : Array Value} (hg : Blk w g 86 cur) (hsz : cur.size = n) (hk : ∀ j, j < k → cur[j]? = some (.string s)) (hm : k + m ≤ n)
    (e : w' = w.setRow g (cur.toList.take k ++ List.replicate m (Value.string s) ++ cur.toList.drop (k + m)).toArray) (hB : Below g w w') : Full w' g n (k + m) s := by
  have hlt := hg.lt
  refine ⟨(cur.toList.take k ++ List.replicate m (Value.string s) ++ cur.toList.drop (k + m)).toArray, ?_, ?_, ?_⟩
  · subst e
    unfold Blk at hg ⊢
    simp [World.setRow, hg, Array.getElem?_modify]
  · simp; omega
  · intro j hj
    simp only [List.getElem?_toArray]
    rw [List.append_assoc, List.getElem?_append]
    have hl : (cur.toList.take k).length = k := by simp; omega
    rw [hl]
    by_cases h : j < k
    · rw [if_pos h, List.getElem?_take, if_pos h]
      have := hk j h
      simpa using this
    · rw [if_neg h, List.getElem?_append, List.length_replicate, if_pos (by omega), List.getElem?_replicate, if_pos (by omega)]
theorem below_setRow {B : Nat} {w w1 : World} {g : Nat} {cs : Array Value} (hb : Below B w w1) (hg : B ≤ g) : Below B w (w1.setRow g cs) :=
  ⟨hb.os, hb.tape, hb.output, by simpa [World.setRow] using hb.size, fun k hk => by
    have : (w1.setRow g cs).heap[k]? = w1.heap[k]? := by
      simp only [World.setRow]
      rw [Array.getElem?_modify]
      rw [if_neg (by omega)]
    exact this.trans (hb.block k hk)⟩
def RepRel (W : World) (g n : Nat) (s : ByteArray) (i : Value) (wr : World) : Prop := ∃ k, k ≤ n ∧ (0 < n → 0 < k) ∧ i = .int .i64 k ∧ Full wr g n k s ∧ Below W.heap.size W wr
set_option maxHeartbeats 2000000 in
set_option maxRecDepth 100000 in
theorem Repeat_one {B : Nat} {w : World} {A : Option Addr} {c : Nat} {s : ByteArray} (n : Nat) (hn : n ≤ 5000) (hr : Reads w B 1 A 1 [.string s]) (hB : B ≤ w.heap.size) :
    Calls Tryd.prog 34 #[.slice A 1 c, .int .i64 n] w fun e w' => e = .returned (.slice (some ⟨w.heap.size, 0, none⟩) n n) ∧ Full w' w.heap.size n n s ∧ Below w.heap.size w w' := by
  obtain ⟨i0, hi0, hz0, hz1, hz2⟩ := info_parts Tryd.info86
  obtain ⟨ad, u, rfl, hAB, hu, hc⟩ := hr.at_ (k := 0) (by omega)
  obtain rfl : Value.string s = u := by simpa using hu
  have d0 : decide ((n : Int) < 0) = false := by simp
  have e3 : IntKind.u64.wrap (n : Int) = (n : Int) := by rw [IntKind.wrap_u64]; omega
  have d1 : decide ((9223372036854775807 : Int) < (n : Int)) = false := by simp; omega
  have hsome : (Tryd.prog.info? 86).map (·.size) = some 1 := by rw [hi0]; simp [hz1]
  have hmk := run_makeSlice (P := Tryd.prog) w 77 86 i0 _ Tryd.underlying77 hi0 hz0 .i64 .i64 n n (by omega) (Int.le_refl _) (by rw [hz1]; simp; omega) (by rw [hz2]; omega) (by omega)
  rw [hz1] at hmk
  simp only [Int.toNat_natCast, Nat.mul_one] at hmk
  obtain ⟨cur, hcur⟩ : ∃ cur, madeCells (Value.string ByteArray.empty).cells n = cur := ⟨_, rfl⟩
  have hcs : cur.size = n := by rw [← hcur]; simp [madeCells, Value.cells]
  rw [hcur] at hmk
  have hb1 : Blk (w.alloc (.cells cur 86)) w.heap.size 86 cur := Blk.new w _ _
  have hB1 : Below w.heap.size w (w.alloc (.cells cur 86)) := (Below.refl _ _).alloc (Nat.le_refl _) _
  have hr1 := hr.alloc hB (.cells cur 86)
  obtain ⟨W, hW⟩ : ∃ W, w.alloc (.cells cur 86) = W := ⟨_, rfl⟩
  rw [hW] at hmk hb1 hB1 hr1
  have hcp : ∃ m W', (∀ ty, (Builtin.copy_ #[77, 77] ty #[.slice (some ⟨w.heap.size, 0, none⟩) n n, .slice (some ad) 1 c]).run Tryd.prog W = .ok (.int .i64 (m : Nat)) W') ∧ m ≤ n ∧ (0 < n → 0 < m) ∧ Full W' w.heap.size n m s ∧ Below w.heap.size w W' := by
    by_cases h0 : n = 0
    · subst h0
      exact ⟨0, W, fun ty => run_copy_none W 77 77 ty 86 _ _ 0 0 1 c Tryd.underlying77 hsome rfl, Nat.le_refl _, fun h => h, ⟨cur, hb1, hcs, fun j hj => by omega⟩, hB1⟩
    · refine ⟨1, W.setRow w.heap.size (cur.toList.take 0 ++ List.replicate 1 (Value.string s) ++ cur.toList.drop (0 + 1)).toArray, fun ty => ?_, by omega, fun _ => by omega, ?_, below_setRow hB1 (Nat.le_refl _)⟩
      · exact run_copy_row Tryd.prog W 77 77 ty 86 w.heap.size 0 n n ad 1 c cur 86 [.string s] Tryd.underlying77 hsome hb1 (by show 1 = min 1 n; omega) (fun j v hj => by
          obtain ⟨_, e, _, hh⟩ := hr1.2 (by omega)
          cases e
          exact hh j v hj) (by simp; omega) (by simp [Value.oneCell'])
      · exact Full.step (k := 0) (m := 1) hb1 hcs (fun j hj => by omega) (by omega) rfl (below_setRow (Below.refl _ _) (Nat.le_refl _))
  obtain ⟨m, W', hcp, hm1, hm2, hF, hB2⟩ := hcp
  clear hW hb1 hr1
  go_enter Tryd.func34, Tryd.ntmps34
  go_wp2_with (go_at_call 53; refine (Mul_one n (by omega) w).mono ?_; rintro e w1 ⟨rfl, rfl⟩)
  go_loopw [8] (fun i wr => RepRel w w.heap.size n s i wr) (fun i _ => n - (intOf i).toNat)
  case atStart => exact ⟨m, hm1, hm2, rfl, hF, hB2⟩
  case round =>
    obtain ⟨k, hk, hk0, rfl, ⟨cu, hb, hsz, hcu⟩, hB⟩ := hrel
    by_cases hlt : k < n
    · have d3 : decide (k < n) = true := by simpa using hlt
      have d4 : decide ((k : Int) < (n : Int)) = true := by simpa using hlt
      have i0 : (0 : Int) ≤ (k : Int) := by omega
      have i1 : (k : Int) ≤ (n : Int) := by omega
      have hk1 := hk0 (by omega)
      have hkn : ¬ n = k := by omega
      obtain ⟨m2, hm2⟩ : ∃ m2, min k (n - k) = m2 := ⟨_, rfl⟩
      have hwr : IntKind.i64.wrap ((k : Int) + (m2 : Int)) = (k : Int) + (m2 : Int) := by rw [IntKind.wrap_i64]; omega
      have hcp2 : ∀ ty, (Builtin.copy_ #[77, 77] ty #[.slice (some ⟨w.heap.size, k, none⟩) (n - k) (n - k), .slice (some ⟨w.heap.size, 0, none⟩) k n]).run Tryd.prog wr.drew = .ok (.int .i64 m2) (wr.drew.setRow w.heap.size (cu.toList.take k ++ List.replicate m2 (Value.string s) ++ cu.toList.drop (k + m2)).toArray) := fun ty => by
        have h := run_copy_row Tryd.prog wr.drew 77 77 ty 86 w.heap.size k (n - k) (n - k) ⟨w.heap.size, 0, none⟩ k n cu 86 (List.replicate m2 (Value.string s)) Tryd.underlying77 hsome hb (by rw [List.length_replicate, ← hm2]) (fun j v hj => by
          rw [List.getElem?_replicate] at hj
          by_cases h : j < m2
          · rw [if_pos h] at hj
            cases hj
            have e : (⟨w.heap.size, 0, none⟩ : Addr).add j = ⟨w.heap.size, j, none⟩ := by unfold Addr.add; split <;> simp_all
            rw [e]
            exact (Blk.cell (w := wr) hb j).trans (hcu j (by omega))
          · rw [if_neg h] at hj; cases hj) (by rw [List.length_replicate]; omega) (fun v hv => by rw [(List.mem_replicate.1 hv).2]; rfl)
        rw [List.length_replicate] at h
        exact h
      have hF2 : Full (wr.drew.setRow w.heap.size (cu.toList.take k ++ List.replicate m2 (Value.string s) ++ cu.toList.drop (k + m2)).toArray) w.heap.size n (k + m2) s := Full.step (w := wr.drew) hb hsz hcu (by omega) rfl (below_setRow (Below.refl _ _) (Nat.le_refl _))
      have hB3 : Below w.heap.size w (wr.drew.setRow w.heap.size (cu.toList.take k ++ List.replicate m2 (Value.string s) ++ cu.toList.drop (k + m2)).toArray) := below_setRow (w1 := wr.drew) ⟨hB.os, hB.tape, hB.output, hB.size, hB.block⟩ (Nat.le_refl _)
      rw [List.append_assoc] at hF2 hB3
      go_wp2
      go_region_law (refine step_copy (by rfl) (.tmp 41) (.tmp 44) 77 (by rfl) (.slice (some ⟨w.heap.size, k, none⟩) (n - k) (n - k)) (.slice (some ⟨w.heap.size, 0, none⟩) k n) (by simp [Act.eval, Act.put, hkn]) (by simp [Act.eval, Act.put]) m2 hcp2 ?_)
      all_goals
        simp [Act.put, Act.eval, hwr]
        go_roundw
        case rel => exact ⟨_, _, _, _, _, _, _, _, _, _, _, _, _, _, ⟨k + m2, by omega, fun _ => by omega, by go_num, hF2, hB3⟩, rfl⟩
        case measure => simp [intOf]; omega
    · obtain rfl : k = n := by omega
      have d3 : decide (k < k) = false := by simp
      go_wp2
      go_ret
      exact ⟨rfl, ⟨cu, hb, hsz, hcu⟩, hB⟩
end Go.Proofs.YtekajggjoeimoaaDoor
set_option linter.unusedVariables false
namespace Go.Proofs.YtekajggjoeimoaaDoor
open Go.RowKit
def opGrow : ByteArray := ⟨#[103, 114, 111, 119]⟩
theorem Tryd.info5' : (Tryd.prog.info? 5).map (fun i => (i.zero, i.size, i.bytes)) = some (some (.int .u8 0), 1, 1) := by kernel_rfl
def Z64 : Array Value := madeCells #[.int .u8 0] 64
theorem mk64 (W : World) : (Instr.makeSlice 38 (.int .i64 64) (.int .i64 64)).run Tryd.prog W = .ok (.slice (some ⟨W.heap.size, 0, none⟩) 64 64) (W.alloc (.cells Z64 5)) := by
  obtain ⟨i0, hi0, hz0, hz1, hz2⟩ := info_parts Tryd.info5'
  have h := run_makeSlice (P := Tryd.prog) W 38 5 i0 _ Tryd.underlying38 hi0 hz0 .i64 .i64 64 64 (by omega) (Int.le_refl _) (by rw [hz1]; decide) (by rw [hz2]; omega) (by omega)
  rw [hz1] at h
  exact h
theorem cv64 (W : World) (g : Nat) (h : Blk W g 5 Z64) : (convert 38 86 (.slice (some ⟨g, 0, none⟩) 64 64)).run Tryd.prog W = .ok (.string zeroS) W := by
  have hz : ∀ j, j < 64 → Z64[j]? = some (.int .u8 0) := fun j hj => by
    unfold Z64 madeCells
    simp [hj, Nat.mod_one]
  have h1 := run_convert_bytes_back (P := Tryd.prog) W 38 86 5 ⟨g, 0, none⟩ 64 (List.replicate 64 0) Tryd.underlying38 Tryd.underlying5 Tryd.underlying86 (fun j hj => by
    have e : (⟨g, 0, none⟩ : Addr).add j = ⟨g, j, none⟩ := by unfold Addr.add; split <;> simp_all
    rw [e, h.cell j, hz j (by simpa using hj), List.getElem_replicate]
    rfl)
  rw [List.length_replicate] at h1
  exact h1
theorem own_below' {w w' : World} {B e size n : Nat} {v : Value} {xs : List Value} (h : w.ownsRow B e size v n xs) (hb : Below w.heap.size w w') : w'.ownsRow B e size v n xs :=
  h.kept (row := none) ⟨hb.os, hb.tape, hb.output, hb.size, fun k hk _ => hb.block k hk⟩ (by cases v.ownBlock <;> simp)
theorem own_set' {w : World} {B e size n f o : Nat} {v u : Value} {xs : List Value} {t : TypeId} {cs : Array Value} (h : w.ownsRow B e size v n xs) (hb : Blk w f t cs) (he : t ≠ e) : (w.setCell ⟨f, o, none⟩ u).ownsRow B e size v n xs := by
  refine ⟨h.1, h.2.imp id ?_⟩
  rintro ⟨g, cap, cur, e1, e2, e3, e4⟩
  refine ⟨g, cap, cur, e1, e2, (Below.heap_setCell _ _ _ _ (fun e => ?_)).trans e3, e4⟩
  have e' : g = f := e
  subst e'
  unfold Blk at hb
  rw [hb] at e3
  cases e3
  exact he rfl
theorem full_reads {w : World} {g m : Nat} {s : ByteArray} (h : Full w g m m s) : Reads w w.heap.size 1 (some ⟨g, 0, none⟩) m (strs (List.replicate m s)) := by
  obtain ⟨cur, hb, hs, hc⟩ := h
  refine ⟨by simp [strs], fun h0 => ⟨_, rfl, hb.lt, fun j u hu => ?_⟩⟩
  have e : (⟨g, 0, none⟩ : Addr).add j = ⟨g, j, none⟩ := by unfold Addr.add; split <;> simp_all
  have hj : j < m := by have := (List.getElem?_eq_some_iff.1 hu).1; simpa [strs] using this
  rw [e, hb.cell j, hc j hj]
  simp only [strs, List.map_replicate, List.getElem?_replicate, hj, if_true] at hu
  exact hu
theorem Full.grown {w w' : World} {g n k : Nat} {s : ByteArray} {row : Option Nat} (h : Full w g n k s) (hg : w.grownBy w' row) (hne : some g ≠ row) : Full w' g n k s := by
  obtain ⟨cur, hb, r⟩ := h
  exact ⟨cur, (hg.block g hb.lt hne).trans hb, r⟩
theorem Full.far {w : World} {g n k f o : Nat} {s : ByteArray} {u : Value} (h : Full w g n k s) (hne : g ≠ f) : Full (w.setCell ⟨f, o, none⟩ u) g n k s := by
  obtain ⟨cur, hb, r⟩ := h
  exact ⟨cur, hb.far hne _, r⟩
/-- What Grow leaves. -/
def GrowPost (w1 : World) (f ks cs kn cn m : Nat) (As An : Option Addr) (ls ln : List ByteArray) (w' : World) : Prop :=
  ∃ w3 A4 c4 w4 A6 c6 w6, Below w1.heap.size w1 w3 ∧ w4.ownsRow 0 86 1 (.slice A4 (ks + m) c4) (ks + m) (strs ls ++ strs (List.replicate m zeroS)) ∧ w3.grownBy w4 (.slice As ks cs : Value).ownBlock ∧
    ((.slice A4 (ks + m) c4 : Value).ownBlock = (.slice As ks cs : Value).ownBlock ∨ (.slice A4 (ks + m) c4 : Value).ownBlock = some w3.heap.size) ∧
    w6.ownsRow 0 86 1 (.slice A6 (kn + m) c6) (kn + m) (strs ln ++ strs (List.replicate m zeroS)) ∧ (w4.setCell ⟨f, 0, none⟩ (.slice A4 (ks + m) c4)).grownBy w6 (.slice An kn cn : Value).ownBlock ∧
    ((.slice A6 (kn + m) c6 : Value).ownBlock = (.slice An kn cn : Value).ownBlock ∨ (.slice A6 (kn + m) c6 : Value).ownBlock = some w4.heap.size) ∧ Below w6.heap.size (w6.setCell ⟨f, 1, none⟩ (.slice A6 (kn + m) c6)) w'
set_option maxHeartbeats 4000000 in
set_option maxRecDepth 100000 in
theorem Grow_walk {w w1 : World} {db f : Nat} {room after code : Int} {armed : Bool} {sf nw ch wrs : Value} {nm : ByteArray} {As An : Option Addr} {ks cs kn cn : Nat} {u n : Nat} {ls ln : List ByteArray}
    (hO : Calls Tryd.prog 32 #[.pointer (some ⟨db, 0, none⟩), .string nm] w fun e w' => e = .returned (.tuple #[.pointer (some ⟨f, 0, none⟩), .int .i64 0]) ∧ w' = w1)
    (hd : Blk w1 db 64 (dcells room sf nw ch wrs armed after code)) (hf : Blk w1 f 79 #[.slice As ks cs, .slice An kn cn])
    (hU : ∀ W, Below w1.heap.size w1 W → Calls Tryd.prog 33 #[.pointer (some ⟨db, 0, none⟩)] W fun e w' => e = .returned (.int .i64 u) ∧ Below W.heap.size W w') (hu : u ≤ 40000) (h1 : kn ≤ n) (h2 : n ≤ 4096) (h3 : (u : Int) + n - kn ≤ room) (hr : room ≤ 4096) (hk : kn ≤ 4096)
    (os : w1.ownsRow 0 86 1 (.slice As ks cs) ks (strs ls)) (on : w1.ownsRow 0 86 1 (.slice An kn cn) kn (strs ln)) (hks : ks ≤ 4096) (hap : (.slice An kn cn : Value).ownBlock = none ∨ (.slice An kn cn : Value).ownBlock ≠ (.slice As ks cs : Value).ownBlock) :
    Calls Tryd.prog 12 #[.pointer (some ⟨db, 0, none⟩), .string nm, .int .i64 n] w fun e w' => Ends w opGrow nm 0 e w' ∧ GrowPost w1 f ks cs kn cn (n - kn) As An ls ln w' := by
  obtain ⟨i8, hi8, hz8, hz8', hz8''⟩ := info_parts Tryd.info86
  have f1 : w1.cell? ⟨f, 1, none⟩ = some (.slice An kn cn) := hf.cell 1
  have d0 : decide ((n : Int) < (kn : Int)) = false := by simp; omega
  have d1 : decide ((4096 : Int) < (n : Int)) = false := by simp; omega
  have d3 : decide (room < (u : Int) + n - kn) = false := by simp; omega
  have hs1 : IntKind.i64.wrap ((u : Int) + (n : Int)) = (u : Int) + (n : Int) := by rw [IntKind.wrap_i64]; omega
  have hs2 : IntKind.i64.wrap ((u : Int) + (n : Int) - (kn : Int)) = (u : Int) + (n : Int) - (kn : Int) := by rw [IntKind.wrap_i64]; omega
  have hs3 : IntKind.i64.wrap ((n : Int) - (kn : Int)) = ((n - kn : Nat) : Int) := by rw [IntKind.wrap_i64]; omega
  have b0 : Below w1.heap.size w1 w1.drew := ⟨rfl, rfl, rfl, Nat.le_refl _, fun _ _ => rfl⟩
  have e0 := hd.cell 0
  go_enter Tryd.func12, Tryd.ntmps12
  go_wp2_with (first
    | (go_at_call 32; refine hO.mono ?_; rintro e w9 ⟨rfl, h9⟩; obtain rfl : w1 = w9 := h9.symm))
  go_region_held3 (fun w' => w'.cell? ⟨f, 1, none⟩ = some (.slice An kn cn) ∧ w'.cell? ⟨db, 0, none⟩ = some (.int .i64 room))
    (first
      | exact ⟨f1, e0⟩
      | exact ⟨hf2.cell 1, hd2.cell 0⟩)
    ((go_at_call 33; refine (hU w1.drew b0).mono ?_; rintro e w2 ⟨rfl, hb2'⟩; have hb2 : Below w1.heap.size w1 w2 := ⟨hb2'.os, hb2'.tape, hb2'.output, hb2'.size, hb2'.block⟩; have hf2 : Blk w2 f 79 _ := (hb2.block f hf.lt).trans hf; have hd2 : Blk w2 db 64 _ := (hb2.block db hd.lt).trans hd))
  go_wp2_with fail
  have hc1 := hf2.cell 1
  have hmk := mk64 w2.drew
  have hcv := cv64 (w2.alloc (.cells Z64 5)).drew w2.heap.size (Blk.new w2 5 Z64)
  have hrd : Reads ((w2.alloc (.cells Z64 5)).alloc (.cells #[.string zeroS] 86)).drew (w2.heap.size + 2) 1 (some ⟨w2.heap.size + 1, 0, none⟩) 1 [.string zeroS] := by
    refine ⟨rfl, fun _ => ⟨_, rfl, by show w2.heap.size + 1 < w2.heap.size + 2; omega, fun j u hu => ?_⟩⟩
    have hj : j < 1 := (List.getElem?_eq_some_iff.1 hu).1
    obtain rfl : j = 0 := by omega
    have hb := Blk.new (w2.alloc (.cells Z64 5)) 86 #[.string zeroS]
    have e : (w2.alloc (.cells Z64 5)).heap.size = w2.heap.size + 1 := by simp
    rw [e] at hb
    exact (hb.cell 0).trans hu
  refine regionE 10 (fun w' => w'.cell? ⟨f, 1, none⟩ = some (.slice An kn cn)) (by kernel_rfl) (by kernel_rfl) (by kernel_rfl) (by kernel_rfl) (by kernel_rfl) hc1 (fun hHeld hTl => ?_)
  refine takeE 3 (v := ?_) hTl rfl (by decide) (by kernel_rfl) (by kernel_rfl) (fun _ _ _ h => h) hHeld (Or.inl ⟨by rfl, ?_⟩) (fun hTl => ?_)
  rotate_left
  · intro w hSw; (try dsimp only at hSw); go_simp
    all_goals with_reducible rfl
  try simp only [Act.put, List.setIfInBounds_toArray, List.set_cons_zero, List.set_cons_succ]
  refine takeE 4 (v := ?_) hTl rfl (by decide) (by kernel_rfl) (by kernel_rfl) (fun _ _ _ h => h) hHeld (Or.inl ⟨by rfl, ?_⟩) (fun hTl => ?_)
  rotate_left
  · intro w hSw; (try dsimp only at hSw); go_simp
    all_goals with_reducible rfl
  try simp only [Act.put, List.setIfInBounds_toArray, List.set_cons_zero, List.set_cons_succ]
  refine takeE 5 (v := ?_) hTl rfl (by decide) (by kernel_rfl) (by kernel_rfl) (fun _ _ _ h => h) hHeld (Or.inl ⟨by rfl, ?_⟩) (fun hTl => ?_)
  rotate_left
  · intro w hSw; (try dsimp only at hSw); go_simp
    all_goals with_reducible rfl
  try simp only [Act.put, List.setIfInBounds_toArray, List.set_cons_zero, List.set_cons_succ]
  refine takeE 6 (v := ?_) hTl rfl (by decide) (by kernel_rfl) (by kernel_rfl) (fun _ _ _ h => h) hHeld (Or.inl ⟨by rfl, ?_⟩) (fun hTl => ?_)
  rotate_left
  · intro w hSw; (try dsimp only at hSw); go_simp
    all_goals with_reducible rfl
  try simp only [Act.put, List.setIfInBounds_toArray, List.set_cons_zero, List.set_cons_succ]
  refine takeE 7 (v := ?_) hTl rfl (by decide) (by kernel_rfl) (by kernel_rfl) (fun _ _ _ h => h) hHeld (Or.inl ⟨by rfl, ?_⟩) (fun hTl => ?_)
  rotate_left
  · intro w hSw; (try dsimp only at hSw); go_simp
    all_goals with_reducible rfl
  try simp only [Act.put, List.setIfInBounds_toArray, List.set_cons_zero, List.set_cons_succ]
  refine takeE 8 (v := ?_) hTl rfl (by decide) (by kernel_rfl) (by kernel_rfl) (fun _ _ _ h => h) hHeld (Or.inl ⟨by rfl, ?_⟩) (fun hTl => ?_)
  rotate_left
  · intro w hSw; (try dsimp only at hSw); go_simp
    all_goals with_reducible rfl
  try simp only [Act.put, List.setIfInBounds_toArray, List.set_cons_zero, List.set_cons_succ]
  refine takeE 9 (v := ?_) hTl rfl (by decide) (by kernel_rfl) (by kernel_rfl) (fun _ _ _ h => h) hHeld (Or.inl ⟨by rfl, ?_⟩) (fun hTl => ?_)
  rotate_left
  · intro w hSw; (try dsimp only at hSw); go_simp
    all_goals with_reducible rfl
  try simp only [Act.put, List.setIfInBounds_toArray, List.set_cons_zero, List.set_cons_succ]
  clear hTl
  refine oneE 0 rfl (by kernel_rfl) (fun K hK => ?_)
  go_simp
  refine hK.out _ _ (fun _ => (hf2.alloc _).cell 1) ?_
  clear hK K
  try simp only [Act.put, List.setIfInBounds_toArray, List.set_cons_zero, List.set_cons_succ]
  refine oneE 1 rfl (by kernel_rfl) (fun K hK => ?_)
  go_simp
  refine hK.out _ _ (fun _ => (hf2.alloc _).cell 1) ?_
  clear hK K
  try simp only [Act.put, List.setIfInBounds_toArray, List.set_cons_zero, List.set_cons_succ]
  refine oneE 2 rfl (by kernel_rfl) (fun K hK => ?_)
  go_simp
  refine hK.out _ _ (fun _ => ((hf2.alloc _).alloc _).cell 1) ?_
  clear hK K
  try simp only [Act.put, List.setIfInBounds_toArray, List.set_cons_zero, List.set_cons_succ]
  refine oneE 10 rfl (by kernel_rfl) (fun K hK => ?_)
  go_simp
  (go_at_call 34; refine (Repeat_one (B := w2.heap.size + 2) (n - kn) (by omega) hrd (by simp)).mono ?_; rintro e w3 ⟨rfl, hF3, hb3⟩; have hB3 : Below w2.heap.size w2 w3 := by { have hq : Below w2.heap.size w2 ((w2.alloc (.cells Z64 5)).alloc (.cells #[.string zeroS] 86)).drew := (((Below.refl _ w2).alloc (Nat.le_refl _) _).alloc (by simp) _).drew; exact hq.trans (hb3.mono hq.size) }; have hf3 : Blk w3 f 79 _ := (hB3.block f hf2.lt).trans hf2)
  try go_wp2_with fail
  refine hK.out _ _ (fun h => absurd h (by decide)) ?_
  clear hK K
  try simp only [Act.put, List.setIfInBounds_toArray, List.set_cons_zero, List.set_cons_succ]
  refine oneE 11 rfl (by kernel_rfl) (fun K hK => ?_)
  go_simp
  refine hK.out _ _ (fun h => absurd h (by decide)) ?_
  clear hK K
  try simp only [Act.put, List.setIfInBounds_toArray, List.set_cons_zero, List.set_cons_succ]
  refine doneE (by kernel_rfl) ?_ _
  all_goals
    have hB13 : Below w1.heap.size w1 w3 := hb2.trans (hB3.mono hb2.size)
    have os3 := own_below' os hB13
    have on3 := own_below' on hB13
    have g0 : w3.cell? ⟨f, 0, none⟩ = some (.slice As ks cs) := hf3.cell 0
    have e2 : ((w2.alloc (.cells Z64 5)).alloc (.cells #[.string zeroS] 86)).drew.heap.size = w2.heap.size + 1 + 1 := by show ((w2.alloc (.cells Z64 5)).alloc (.cells #[.string zeroS] 86)).heap.size = _; simp
    rw [e2] at hF3 hb3
    have hnb : ∀ k, some k = (.slice As ks cs : Value).ownBlock → k ≠ w2.heap.size + 1 + 1 := fun k hk => by
      have := (os.lt k hk.symm).2
      have := hb2.size
      omega
    have hnb2 : ∀ k, some k = (.slice An kn cn : Value).ownBlock → k ≠ w2.heap.size + 1 + 1 := fun k hk => by
      have := (on.lt k hk.symm).2
      have := hb2.size
      omega
    have hfl := hf.lt
    have hbs := hb2.size
    clear hmk hcv hrd
    have hfull := full_reads hF3
    have hFn : some (w2.heap.size + 1 + 1) ≠ (.slice As ks cs : Value).ownBlock := fun e => hnb _ e rfl
    have hFf : w2.heap.size + 1 + 1 ≠ f := by omega
    go_wp2_with (first
      | (at_builtin; refine wpList_append_any _ rfl (.tmp 31) (.tmp 32) _ rfl 0 86 i8 _ 1 16 Tryd.underlying77 hi8 hz8 hz8' hz8'' rfl (by omega) (.slice As ks cs) ks (strs ls) rfl os3 w3.heap.size _ (n - kn) (n - kn) (strs (List.replicate (n - kn) zeroS)) rfl hfull (strs_one _) (by simp only [maxLen]; omega) (by omega) (by omega) ?_; intro v4 w4 ho4 hg4 hl4; obtain ⟨A4, c4, rfl⟩ := own_formN ho4; have hf4 : Blk w4 f 79 #[.slice As ks cs, .slice An kn cn] := blk_otherN hf3 hg4 os3 (by decide); have k4 : w4.cell? ⟨f, 0, none⟩ = some (.slice As ks cs) := hf4.cell 0; have l4 := hf4.frozen 0; have hf5 : Blk (w4.setCell ⟨f, 0, none⟩ (.slice A4 (ks + (n - kn)) c4)) f 79 #[.slice A4 (ks + (n - kn)) c4, .slice An kn cn] := hf4.set_ 0 _; have on5 := own_set' (o := 0) (u := .slice A4 (ks + (n - kn)) c4) (on3.kept hg4 hap) hf4 (by decide); have k5 : (w4.setCell ⟨f, 0, none⟩ (.slice A4 (ks + (n - kn)) c4)).cell? ⟨f, 1, none⟩ = some (.slice An kn cn) := hf5.cell 1; have hF5 := full_reads ((hF3.grown hg4 hFn).far (f := f) (o := 0) (u := .slice A4 (ks + (n - kn)) c4) hFf))
      | (at_builtin; refine wpList_append_any _ rfl (.tmp 40) (.tmp 41) _ rfl 0 86 i8 _ 1 16 Tryd.underlying77 hi8 hz8 hz8' hz8'' rfl (by omega) (.slice An kn cn) kn (strs ln) rfl on5 (w4.setCell ⟨f, 0, none⟩ (.slice A4 (ks + (n - kn)) c4)).heap.size _ (n - kn) (n - kn) (strs (List.replicate (n - kn) zeroS)) rfl hF5 (strs_one _) (by simp only [maxLen]; omega) (by omega) (by omega) ?_; intro v6 w6 ho6 hg6 hl6; obtain ⟨A6, c6, rfl⟩ := own_formN ho6; have hf6 : Blk w6 f 79 #[.slice A4 (ks + (n - kn)) c4, .slice An kn cn] := blk_otherN hf5 hg6 on5 (by decide); have k6 : w6.cell? ⟨f, 1, none⟩ = some (.slice An kn cn) := hf6.cell 1; have l6 := hf6.frozen 1)
      | (go_at_call 23; refine (fault_any _ _ _ _).mono ?_; rintro e w7 ⟨⟨v, rfl, hv⟩, hb7⟩))
    go_ret
    have e9 : (Value.slice A6 (kn + (n - kn)) c6) = .slice A6 n c6 := by rw [show kn + (n - kn) = n by omega]
    have e7 : (w6.setCell ⟨f, 1, none⟩ (.slice A6 n c6)).heap.size = w6.heap.size := by simp [World.setCell]
    have h7 : Below w6.heap.size (w6.setCell ⟨f, 1, none⟩ (.slice A6 (kn + (n - kn)) c6)) w7 := by rw [e7] at hb7; rw [e9]; exact hb7
    exact ⟨⟨v, rfl, hv⟩, w3, A4, c4, w4, A6, c6, w6, hB13, ho4, hg4, hl4, ho6, hg6, hl6.imp id (fun h => h.trans (by simp [World.setCell])), h7⟩
end Go.Proofs.YtekajggjoeimoaaDoor
set_option linter.unusedVariables false
namespace Go.Proofs.YtekajggjoeimoaaDoor
open Go.RowKit
section
variable {X X' : Nat → Prop} {w w1 w2 w3 w4 : World} {db M1 M2 : Nat} {v3 v4 : Value} {q q' : DQ} {fs : List Nat} {V : Nat → Bool → Value} {C : Nat → Bool → List ByteArray}
theorem FilesV.bound (h : FilesV X w fs V C) : FilesV (fun k => X k ∧ k < w.heap.size) w fs V C :=
  ⟨h.blk, fun f hf => ⟨h.inX f hf, (h.blk f hf).lt⟩, fun f hf b => ⟨(h.row f hf b).1, fun k hk => ⟨(h.row f hf b).2 k hk, (h.row f hf b).lt hk⟩⟩, h.inj⟩
theorem DiskV.bound (h : DiskV X w db M1 M2 v3 v4 q) : DiskV (fun k => X k ∧ k < w.heap.size) w db M1 M2 v3 v4 q :=
  ⟨h.blk, h.m1, h.m2, h.ne, ⟨h.inX, h.blk.lt⟩, ⟨h.inX1, (Array.getElem?_eq_some_iff.1 h.m1).1⟩, ⟨h.inX2, (Array.getElem?_eq_some_iff.1 h.m2).1⟩, h.ok1, h.ok2, ⟨h.chs.1, fun k hk => ⟨h.chs.2 k hk, h.chs.lt hk⟩⟩, ⟨h.wrs.1, fun k hk => ⟨h.wrs.2 k hk, h.wrs.lt hk⟩⟩⟩
theorem strs_append (a b : List ByteArray) : strs (a ++ b) = strs a ++ strs b := by simp [strs]
/-- A row that grew, laid into its file. -/
theorem FilesV.grow (h : FilesV X w fs V C) (hb : ∀ k, X k → k < w.heap.size) {f : Nat} {b : Bool} (hf : f ∈ fs) {m : Nat} {v : Value} {l' : List ByteArray} (hg : w.grownBy w2 (V f b).ownBlock)
    (ho : w2.ownsRow 0 86 1 v m (strs l')) (hm : m = l'.length) (hv : v.ownBlock = (V f b).ownBlock ∨ v.ownBlock = some w.heap.size) :
    FilesV (fun k => X k ∨ k = w.heap.size) (w2.setCell ⟨f, if b then 1 else 0, none⟩ v) fs (upd V f b v) (upd C f b l') := by
  subst hm
  refine h.turn hf (fun k hk => .inl hk) (fun k cs t ht hx hne hk => (hg.block k (Array.getElem?_eq_some_iff.1 hk).1 hne).trans hk) ⟨ho, fun k hk => ?_⟩ (hv.imp id fun e k hk => ?_)
  · rcases hv with e | e
    · rw [e] at hk; exact .inl ((h.row f hf b).2 k hk)
    · rw [e] at hk; cases hk; exact .inr rfl
  · rw [e] at hk; cases hk; intro hx; exact absurd (hb _ hx) (Nat.lt_irrefl _)
theorem failQ_room (q : DQ) : (failQ q).2.room = q.room := (failQ_dir q).2.2
theorem left_fr (f1 : Fr X w w1) (h : Fr X w1 w2) : Fr X w w2 := f1.trans h
theorem Grow_go (hF : FilesV X w fs V C) (h : DiskV X w db M1 M2 v3 v4 q) (hb : ∀ k, X k → k < w.heap.size) (ha : q.after ≤ 9223372036854775807) (hfs : ∀ x ∈ q.now, x.f ∈ fs) (hn : q.now.length ≤ 8) (hc : ∀ x ∈ q.now, (C x.f true).length ≤ 4096)
    {nm : ByteArray} {f : Nat} (ho : openedQ q nm = (0, some f)) (hff : f ∈ fs) {n : Nat} (h1 : (C f true).length ≤ n) (h2 : n ≤ 4096) (h3 : (lens C q.now : Int) + n - (C f true).length ≤ q.room) (hr : q.room ≤ 4096) (hl : (C f false).length ≤ 4096) :
    Calls Tryd.prog 12 #[.pointer (some ⟨db, 0, none⟩), .string nm, .int .i64 n] w fun e w' => Ends w opGrow nm 0 e w' ∧
      Left X w db M1 fs (upd (upd C f false (C f false ++ List.replicate (n - (C f true).length) zeroS)) f true (C f true ++ List.replicate (n - (C f true).length) zeroS)) (failQ q).2 w' := by
  obtain ⟨w1, hO, hD, hN⟩ := opened_any h ha nm
  rw [ho] at hO
  have hF1 : FilesV X w1 fs V C := hF.keep (fun _ h => h) hN.files
  obtain ⟨As, cs, hAs⟩ := (hF1.row f hff false).form
  obtain ⟨An, cn, hAn⟩ := (hF1.row f hff true).form
  have hfb := hF1.blk f hff
  rw [hAs, hAn] at hfb
  have hos := (hF1.row f hff false).1
  have hon := (hF1.row f hff true).1
  rw [hAs] at hos
  rw [hAn] at hon
  have hnow := failQ_now q
  have hU : ∀ W, Below w1.heap.size w1 W → Calls Tryd.prog 33 #[.pointer (some ⟨db, 0, none⟩)] W fun e w' => e = .returned (.int .i64 (lens C q.now)) ∧ Below W.heap.size W w' := fun W hW => by
    have := used_any (hF1.keep (fun _ h => h) (Same.of_below hW)) (hD.below hW) (by rw [hnow]; exact hfs) (by rw [hnow]; exact hn) (by rw [hnow]; exact hc)
    rw [hnow] at this
    exact this
  have hle : lens C q.now ≤ 8 * 4096 := Nat.le_trans (lens_le hc) (Nat.mul_le_mul_right _ hn)
  have hap : (.slice An (C f true).length cn : Value).ownBlock = none ∨ (.slice An (C f true).length cn : Value).ownBlock ≠ (.slice As (C f false).length cs : Value).ownBlock := by
    rw [← hAs, ← hAn]
    cases e : (V f true).ownBlock with
    | none => exact .inl rfl
    | some k =>
      refine .inr (fun e2 => ?_)
      have := (hF1.inj f hff f hff true false k e e2.symm).2
      cases this
  have hblk := hD.blk
  refine (Grow_walk hO hblk hfb hU (by omega) h1 h2 (by rw [failQ_room]; omega) (by rw [failQ_room]; exact hr) (by omega) hos hon hl hap).mono ?_
  rintro e w' ⟨hE, w3, A4, c4, w4, A6, c6, w6, hB3, ho4, hg4, hl4, ho6, hg6, hl6, hB7⟩
  refine ⟨hE, ?_⟩
  have hF3 := hF1.keep (fun _ h => h) (Same.of_below (T := FT) (X := X) hB3)
  have hb3 : ∀ k, X k → k < w3.heap.size := fun k hk => by have := hb k hk; have := hN.size; have := hB3.size; omega
  rw [← strs_append] at ho4 ho6
  have hF5 := hF3.grow (b := false) hb3 hff (by rw [hAs]; exact hg4) ho4 (by simp) (by rw [hAs]; exact hl4)
  have hF5b := hF5.bound
  have e4 : upd V f false (.slice A4 ((C f false).length + (n - (C f true).length)) c4) f true = V f true := upd_ne _ _ (by simp)
  have e5 : upd C f false (C f false ++ List.replicate (n - (C f true).length) zeroS) f true = C f true := upd_ne _ _ (by simp)
  have hF7 := hF5b.grow (b := true) (fun k hk => hk.2) hff (by rw [e4, hAn]; exact hg6) ho6 (by simp) (by rw [e4, hAn]; exact hl6.imp id fun h => h.trans (by simp [World.setCell]))
  have es4 : (w4.setCell ⟨f, 0, none⟩ (.slice A4 ((C f false).length + (n - (C f true).length)) c4)).heap.size = w4.heap.size := by simp [World.setCell]
  have s1 := hN.size
  have s3 := hB3.size
  have s4 := hg4.size
  have s6 := hg6.size
  have e7 : ∀ u : Value, (w6.setCell ⟨f, 1, none⟩ u).heap.size = w6.heap.size := fun u => by simp [World.setCell]
  have hB7' : ∀ {T : Nat → Prop} {Y : Nat → Prop}, Same T Y (w6.setCell ⟨f, 1, none⟩ (.slice A6 ((C f true).length + (n - (C f true).length)) c6)) w' := fun {T Y} => Same.of_below (by rw [e7]; exact hB7)
  have hmore : ∀ k, (((X k ∨ k = w3.heap.size) ∧ k < (w4.setCell ⟨f, 0, none⟩ (.slice A4 ((C f false).length + (n - (C f true).length)) c4)).heap.size) ∨ k = (w4.setCell ⟨f, 0, none⟩ (.slice A4 ((C f false).length + (n - (C f true).length)) c4)).heap.size) → More X w k := fun k hk => by
    rw [es4] at hk
    rcases hk with ⟨hk | hk, _⟩ | hk
    · exact .inl hk
    · exact .inr (by omega)
    · exact .inr (by omega)
  have hXs : ∀ k, (V f false).ownBlock = some k → X k := (hF1.row f hff false).2
  have hXn : ∀ k, (V f true).ownBlock = some k → X k := (hF1.row f hff true).2
  have hff1 : X f := hF1.inX f hff
  -- the disk
  have hD3 := hD.below hB3
  have hD5 : DiskV X (w4.setCell ⟨f, 0, none⟩ (.slice A4 ((C f false).length + (n - (C f true).length)) c4)) db M1 M2 v3 v4 (failQ q).2 := by
    have hf4 : Blk w4 f 79 _ := (hg4.block f (hF3.blk f hff).lt (by rw [← hAs]; exact blk_apart (hF3.blk f hff) (hF3.row f hff false) (by decide))).trans (hF3.blk f hff)
    refine hD3.keep (fun _ h => h) ?_ ?_
    · have s1 : Same DT X w3 w4 := by have := same_grown (T := DT) (hF3.row f hff false) (by rw [hAs]; exact hg4) (by rintro (e | e | e) <;> cases e); exact this
      exact s1.trans (same_set hf4 (by rintro (e | e | e) <;> cases e))
    · intro k es ck hx hk
      have hq1 := (hg4.block k (Array.getElem?_eq_some_iff.1 hk).1 (by rw [← hAs]; exact map_apart hk (hF3.row f hff false))).trans hk
      exact (Below.heap_setCell _ _ _ _ (fun e => by
        have e' : k = f := e
        subst e'
        unfold Blk at hf4; rw [hf4] at hq1; cases hq1)).trans hq1
  have hD7 : DiskV X (w6.setCell ⟨f, 1, none⟩ (.slice A6 ((C f true).length + (n - (C f true).length)) c6)) db M1 M2 v3 v4 (failQ q).2 := by
    have hr5 := hF5.row f hff true
    rw [e4, hAn] at hr5
    have hb5 := hF5.blk f hff
    have hf6 : Blk w6 f 79 _ := (hg6.block f hb5.lt (blk_apart hb5 hr5 (by decide))).trans hb5
    refine hD5.keep (fun _ h => h) ?_ ?_
    · have s1 : Same DT X _ w6 := fun k cs t ht hx hk => (same_grown (T := DT) (X := fun k => X k ∨ k = w3.heap.size) hr5 hg6 (by rintro (e | e | e) <;> cases e)) k cs t ht (.inl hx) hk
      exact s1.trans (same_set hf6 (by rintro (e | e | e) <;> cases e))
    · intro k es ck hx hk
      have hq1 := (hg6.block k (Array.getElem?_eq_some_iff.1 hk).1 (map_apart hk hr5)).trans hk
      exact (Below.heap_setCell _ _ _ _ (fun e => by
        have e' : k = f := e
        subst e'
        unfold Blk at hf6; rw [hf6] at hq1; cases hq1)).trans hq1
  refine ⟨⟨_, _, _, (hD7.keep (fun _ => more_left) hB7' (SameM.of_below (by rw [e7]; exact hB7)))⟩, ⟨_, (hF7.keep hmore hB7')⟩, ?_⟩
  have f1 : Fr X w w1 := hN.fr' hD.inX
  have f3 : Fr X w w3 := f1.trans (Fr.of_below hB3)
  have f4 : Fr X w w4 := f3.grown hg4 (fun k hk => .inr (hXs k (by rw [hAs]; exact hk)))
  have f5 := f4.setCell (p := ⟨f, 0, none⟩) (.inr hff1) (.slice A4 ((C f false).length + (n - (C f true).length)) c4)
  have f6 : Fr X w w6 := f5.grown hg6 (fun k hk => .inr (hXn k (by rw [hAn]; exact hk)))
  have f7 := f6.setCell (p := ⟨f, 1, none⟩) (.inr hff1) (.slice A6 ((C f true).length + (n - (C f true).length)) c6)
  exact f7.trans (Fr.of_below (by rw [e7]; exact hB7))
end
end Go.Proofs.YtekajggjoeimoaaDoor
