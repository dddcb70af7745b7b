/- chain.Write: walked. chain's fault at an error's number; errors.Is of it: runs of the interpreter. chain.Write at a transaction that is none. chain.Write at a transaction that is none: walked. The chain's live: its calls. The chain's live: walked. Runs of the interpreter: ChainNil at what came in. scowlaw10.do at transactions that are none, its first kind: walked. ChainNil: walked at the first kind; by runs at the others. -/
import Derived.Test.YtenfkghoolegfaaGreatDoorTf
import Derived.Test.YtenfkghoolegfaaGreatDoorTe
set_option linter.unusedVariables false
namespace Go.Proofs.YtenfkghoolegfaaGreatDoor
open Go.RowKit
attribute [local go_sem] Oper.semAt_some
theorem own_isC {W : World} {base n size : Nat} {e : TypeId} {A : Option Addr} {c : Nat} {xs : List Value} (h : W.ownsRow base e size (.slice A n c) n xs) : ∀ ad, A = some ad → isC W ad.block := by
  rintro ad rfl
  rcases h.2 with ⟨h0, _⟩ | ⟨g, cap, cur, e1, h2, h3, _⟩
  · cases h0
  · simp only [Value.slice.injEq, Option.some.injEq] at e1
    rw [e1.1]
    exact ⟨_, h3, rfl⟩
theorem own_same {W W' : World} {base n size : Nat} {e : TypeId} {A : Option Addr} {c : Nat} {xs : List Value} (h : W.ownsRow base e size (.slice A n c) n xs) (hb : ∀ ad, A = some ad → W'.heap[ad.block]? = W.heap[ad.block]?) : W'.ownsRow base e size (.slice A n c) n xs := by
  refine ⟨h.1, h.2.imp id ?_⟩
  rintro ⟨g, cap, cur, e1, e2, e3, r⟩
  simp only [Value.slice.injEq] at e1
  exact ⟨g, cap, cur, by simpa using e1, e2, (hb _ e1.1).trans e3, r⟩
theorem isC_not {W : World} {j : Nat} {o : Obj} (h : isC W j) (ho : W.heap[j]? = some o) (hc : o.isCells = false) : False := by
  obtain ⟨o', ho', hc'⟩ := h
  rw [ho] at ho'
  cases ho'
  rw [hc] at hc'
  cases hc'
theorem blk_at {w : World} {n : Nat} {t : TypeId} {cs : Array Value} (h : w.heap.size = n) : Blk (w.alloc (.cells cs t)) n t cs := by subst h; exact Blk.new _ _ _
/-- Pages given out behind all others. -/
def tA (t : PT) (k : Nat) : PT := { t with pages := t.pages + k, changed := t.changed || decide (0 < k) }
set_option maxHeartbeats 4000000 in
set_option maxRecDepth 1000000 in
theorem Write_ok {X : Nat → Prop} {w : World} {T M : Nat} {t : PT} {vs : List (List Nat × List UInt8)} (h : TX X w T M t) (hX : ∀ k, X k → k < w.heap.size) (hX1 : ¬ X 1) (ht : PowAt w) (hB : Back t vs []) (val : List UInt8) (a : Addr) (c : Nat)
    (hr : Reads w w.heap.size 1 (some a) val.length (bl val)) (hXa : ¬ X a.block) (hc : val.length ≤ c) (h1 : 1 ≤ val.length) (h2 : val.length ≤ 1000) (hp : t.pages + 5 ≤ 512) :
    Calls Tryz.prog 13 #[.pointer (some ⟨T, 0, none⟩), .slice (some a) val.length c] w fun e w' => e = .returned (.tuple #[.int .u32 (t.pages : Nat), .nilIface]) ∧ TX (moreX X w) w' T M (writeT t val).2.2 ∧ Fr X w w' := by
  have hS := fun W => isSize_any (val.length : Int) W
  rw [show (decide (1 ≤ (val.length : Int)) && decide ((val.length : Int) ≤ 1000)) = true by simp; omega] at hS
  refine (callsIn_wide (n := 3)).1 ?_
  refine callsIn_of_wp_marks Tryz.func13 rfl trivial ?_ rfl
  simp only [Tryz.ntmps13, List.size_toArray, List.length_cons, List.length_nil, Nat.reduceAdd, Nat.reduceSub, Array.replicate_succ, Array.replicate_zero, List.push_toArray, List.append_toArray, List.nil_append, List.cons_append]
  gi_wp2_with (first
    | (refine ⟨trivial, ?_⟩; gi_at_call 44; refine (callsIn_wide.2 (hS _)).mono ?_; rintro e w2 ⟨rfl, hww⟩; have hww := hww.symm; subst hww)
    | (refine ⟨trivial, ?_⟩; gi_at_call 46; refine (callsIn_wide.2 (chunk_go _ _ _ _)).mono ?_; rintro e w2 ⟨rfl, hww⟩; have hww := hww.symm; subst hww))
  obtain ⟨wA, hwA⟩ : ∃ wA, ((((((w.alloc (.cells #[.pointer (some ⟨T, 0, none⟩)] 32)).alloc (.cells #[.int .u32 0] 22)).alloc (.cells #[.nilIface] 37)).alloc (.cells #[.slice none 0 0] 35)).alloc (.cells #[.slice (some a) val.length c] 23)).alloc (.cells #[.int .i64 238] 3)) = wA := ⟨_, rfl⟩
  have hsA : wA.heap.size = w.heap.size + 6 := by rw [← hwA]; simp
  have hbA : Below w.heap.size w wA := by
    rw [← hwA]
    exact ((((((Below.refl w.heap.size w).alloc (by simp) _).alloc (by simp) _).alloc (by simp; omega) _).alloc (by simp; omega) _).alloc (by simp; omega) _).alloc (by simp; omega) _
  have hA0 : Blk wA w.heap.size 32 #[.pointer (some ⟨T, 0, none⟩)] := by rw [← hwA]; exact (((((blk_at (by simp)).alloc _).alloc _).alloc _).alloc _).alloc _
  have hA1 : Blk wA (w.heap.size + 1) 22 #[.int .u32 0] := by rw [← hwA]; exact ((((blk_at (by simp)).alloc _).alloc _).alloc _).alloc _
  have hA2 : Blk wA (w.heap.size + 2) 37 #[.nilIface] := by rw [← hwA]; exact (((blk_at (by simp)).alloc _).alloc _).alloc _
  have hA3 : Blk wA (w.heap.size + 3) 35 #[.slice none 0 0] := by rw [← hwA]; exact ((blk_at (by simp)).alloc _).alloc _
  have hA4 : Blk wA (w.heap.size + 4) 23 #[.slice (some a) val.length c] := by rw [← hwA]; exact (blk_at (by simp)).alloc _
  have hA5 : Blk wA (w.heap.size + 5) 3 #[.int .i64 238] := by rw [← hwA]; exact blk_at (by simp)
  rw [hwA]
  clear hwA
  have hst := chunk_seq 2 (by omega) (w.heap.size + 4) (w.heap.size + 5) val.length c a h2 hc wA (by omega) (by omega) (hA4.cell 0) (hA5.cell 0)
  have hN : (List.range (nChN val.length)).length = nCh val := by rw [List.length_range]; rfl
  have hN5 : nCh val ≤ 5 := nCh_le h2
  have hN1 : 1 ≤ nCh val := by unfold nCh; omega
  have hAT := h.keep (KeepX.of_below hbA)
  have HH := Lib.hid (And.intro h (And.intro hB hr))
  clear h hr
  refine' wpIn_rangeFunc_ownN rfl (by omega) (gf := 81) (lb := #[.pointer (some ⟨w.heap.size + 4, 0, none⟩), .pointer (some ⟨w.heap.size + 5, 0, none⟩)]) rfl trivial (enters_of Tryz.func81 (by kernel_rfl) rfl) hst keepC_t ?hkb (Below.refl _ _) (fun _ => rfl)
    (fun k W => k ≤ nCh val ∧ TX X W T M (tA t k) ∧ (∃ A c, Blk W (w.heap.size + 3) 35 #[.slice A k c] ∧ W.ownsRow wA.heap.size 22 1 (.slice A k c) k (ul (List.range' t.pages k))) ∧ Fr (fun j => X j ∨ j = w.heap.size + 3) wA W)
    (fun _ _ _ => False) ?hi ?hix ?h0 _ ?assign ?body ?done ?stop
  case hkb =>
    intro W l o o' hl ho hc9 hw9
    have hgb := grownBy_putObj' W l o'
    have hlt := (Array.getElem?_eq_some_iff.1 ho).1
    exact ⟨World.cell?_of_block (hgb.block (w.heap.size + 4) (by omega) (fun e => by cases e; omega)), World.cell?_of_block (hgb.block (w.heap.size + 5) (by omega) (fun e => by cases e; omega))⟩
  case hi =>
    rintro k W W' row ⟨q0, q1, ⟨A1, c1, q2, q3⟩, q4⟩ hg9 hr9
    have hlo : ∀ j, j < wA.heap.size → some j ≠ row := fun j hj e => by obtain ⟨h8, _⟩ := hr9 j e.symm; omega
    refine ⟨q0, q1.keep ⟨hg9.size, fun j hj hl => hg9.block j hl (hlo j (by have := hX j hj; omega))⟩, ⟨A1, c1, (hg9.block _ q2.lt (hlo _ (by omega))).trans q2, own_same q3 (fun ad e => hg9.block _ (own_lt q3 ad e).1 (fun e9 => by obtain ⟨h8, o, ho, hco⟩ := hr9 _ e9.symm; exact isC_not (own_isC q3 ad e) ho hco))⟩, ?_⟩
    exact ⟨hg9.os.trans q4.os, hg9.tape.trans q4.tape, hg9.output.trans q4.output, Nat.le_trans q4.size hg9.size, fun j hj hx => (hg9.block j (Nat.lt_of_lt_of_le hj q4.size) (hlo j hj)).trans (q4.block j hj hx)⟩
  case hix => exact fun _ _ _ _ _ hs _ _ => hs
  case h0 => exact ⟨Nat.zero_le _, by simpa [tA] using hAT, ⟨none, 0, hA3, ⟨rfl, .inl ⟨rfl, rfl⟩⟩⟩, Fr.refl _ _⟩
  case assign =>
    intro l x W K hK
    gi_wp2
    exact hK
  case body =>
    rintro l k x W hx ⟨q0, q1, ⟨A1, c1, q2, q3⟩, q4⟩
    have hkN : k < nCh val := by have := (List.getElem?_eq_some_iff.1 hx).1; rwa [hN] at this
    have hAl := Alloc_new q1 (show t.free = 0 from hB.chain) (show t.pages + k < 512 by omega)
    have hX3 : ∀ j, w.heap.size ≤ j → j ≠ w.heap.size + 3 → ¬ (X j ∨ j = w.heap.size + 3) := fun j h8 h9 h7 => h7.elim (fun h6 => by have := hX j h6; omega) h9
    have hct : W.cell? ⟨w.heap.size, 0, none⟩ = some (.pointer (some ⟨T, 0, none⟩)) := (hA0.fr q4 (hX3 _ (by omega) (by omega))).cell 0
    have HI := Lib.hid (And.intro q1 (And.intro q2 (And.intro q3 q4)))
    clear q1 q2 q3 q4
    gi_wp2_with (first
      | (refine ⟨trivial, ?_⟩; gi_at_call 17; refine (callsIn_wide.2 hAl).mono ?_; rintro e W1 ⟨rfl, hT1, hF1⟩; obtain ⟨q1, q2, q3, q4⟩ := HI.out; have r2 := q2.fr hF1 (fun h9 => by have := hX _ h9; omega); have hcp : W1.cell? ⟨w.heap.size + 3, 0, none⟩ = some (.slice A1 k c1) := r2.cell 0; have r3 := own_same q3 (fun ad e9 => hF1.block _ (own_lt q3 ad e9).1 (fun h9 => by have := hX _ h9; have := (own_lt q3 ad e9).2; omega)); obtain ⟨W2, hW2⟩ : ∃ W2, W2 = W1.alloc (.cells #[.int .u32 ((tA t k).pages : Nat)] 22) := ⟨_, rfl⟩; have hb2 : Below W1.heap.size W1 W2 := (by rw [hW2]; exact (Below.refl _ W1).alloc (Nat.le_refl _) _); have hrn : Reads W2 W2.heap.size 1 (some ⟨W1.heap.size, 0, none⟩) 1 (ul [(tA t k).pages]) := (by rw [hW2]; exact reads_blk (Blk.new _ _ _) rfl); have s3 := own_belowN r3 hb2; have s2 := r2.below hb2 r2.lt; have hs1 := hF1.size; have hs2 := hb2.size; have hs0 := q4.size; have HW2 := Lib.hid hW2; clear hW2 q1 q2 q3 q4)
      | (rw [← HW2.out]; refine list_pushI TU4 rfl rfl wA.heap.size rfl s3 rfl hrn (by omega) (ul_one _) (by omega) (by omega) (l := k + 1) rfl (ys := ul (List.range' t.pages (k + 1))) (by rw [ul_app, List.range'_concat, Nat.one_mul]; rfl) ?_; intro A7 c7 w7 ho7 hg7; have s7 : Blk w7 (w.heap.size + 3) 35 #[.slice A1 k c1] := (grown_at hg7 s2.lt (own_box s3 s2 (by decide))).trans s2; have hcp7 : w7.cell? ⟨w.heap.size + 3, 0, none⟩ = some (.slice A1 k c1) := Blk.cell s7 0; have hfp7 : w7.frozen? ⟨w.heap.size + 3, 0, none⟩ = false := Blk.frozen s7 0))
    have hTt : ({ tA t k with pages := (tA t k).pages + 1, changed := true } : PT) = tA t (k + 1) := by unfold tA; simp [Nat.add_assoc]
    rw [hTt] at hT1
    obtain ⟨_, q2, q3, q4⟩ := HI.out
    have hw2 := HW2.out
    have hlo : ∀ j, wA.heap.size ≤ j → ∀ o : Obj, W.heap[j]? = some o → o.isCells = false → w7.heap[j]? = some o := fun j hj o ho hco => by
      have hjl := (Array.getElem?_eq_some_iff.1 ho).1
      have e1 : W1.heap[j]? = some o := (hF1.block j hjl (fun h9 => by have := hX j h9; omega)).trans ho
      have e2 : W2.heap[j]? = some o := (hb2.block j (by omega)).trans e1
      exact (grown_at hg7 (by omega) (fun ad e9 h9 => by subst h9; exact isC_not (own_isC s3 ad e9) e2 hco)).trans e2
    have hfix : ∀ j, w.heap.size ≤ j → j < wA.heap.size → w7.heap[j]? = W.heap[j]? := fun j hj hj2 => by
      have e1 : W1.heap[j]? = W.heap[j]? := hF1.block j (by omega) (fun h9 => by have := hX j h9; omega)
      have e2 : W2.heap[j]? = W1.heap[j]? := hb2.block j (by omega)
      rw [grown_at hg7 (by omega) (fun ad e9 h9 => by have := (own_lt s3 ad e9).2; omega), e2, e1]
    have hs7 := hg7.size
    have hset : ∀ j, j ≠ w.heap.size + 3 → (w7.setCell ⟨w.heap.size + 1 + 1 + 1, 0, none⟩ (.slice A7 (k + 1) c7)).heap[j]? = w7.heap[j]? := fun j hj => Below.heap_setCell w7 ⟨w.heap.size + 1 + 1 + 1, 0, none⟩ _ j hj
    have hssz : (w7.setCell ⟨w.heap.size + 1 + 1 + 1, 0, none⟩ (.slice A7 (k + 1) c7)).heap.size = w7.heap.size := by simp [World.setCell]
    refine ⟨⟨by rw [hssz]; omega, fun j o hj ho hco => (hset j (by omega)).trans (hlo j hj o ho hco)⟩, ⟨World.cell?_of_block ((hset (w.heap.size + 4) (by omega)).trans (hfix _ (by omega) (by omega))), World.cell?_of_block ((hset (w.heap.size + 5) (by omega)).trans (hfix _ (by omega) (by omega)))⟩, by omega, ?_, ⟨A7, c7, s7.set_ 0 _, own_set ho7 (own_box ho7 s7 (by decide))⟩, ?_⟩
    · refine hT1.keep ⟨by rw [hssz]; omega, fun j hj hl => ?_⟩
      have := hX j hj
      rw [hset j (by omega), grown_at hg7 (by omega) (fun ad e9 h9 => by have := (own_lt s3 ad e9).2; omega)]
      exact hb2.block j hl
    · refine ⟨hg7.os.trans (hb2.os.trans (hF1.os.trans q4.os)), hg7.tape.trans (hb2.tape.trans (hF1.tape.trans q4.tape)), hg7.output.trans (hb2.output.trans (hF1.output.trans q4.output)), by rw [hssz]; omega, fun j hj hx => ?_⟩
      rw [not_or] at hx
      rw [hset j hx.2, grown_at hg7 (by omega) (fun ad e9 h9 => by have := (own_lt s3 ad e9).2; omega), hb2.block j (by omega), hF1.block j (by omega) hx.1]
      exact q4.block j hj (by rw [not_or]; exact hx)
  case done =>
    rintro D W hD ⟨_, q1, ⟨A1, c1, q2, q3⟩, q4⟩ hK
    rw [hN] at q1 q2 q3
    have hsz0 := q4.size
    obtain ⟨L, HL⟩ : ∃ L, Hid (W.heap.size = L) := ⟨_, Lib.hid rfl⟩
    have HI := Lib.hid (And.intro q1 (And.intro q2 (And.intro q3 q4)))
    clear q1 q2 q3 q4
    gi_wp2_with (refine ⟨trivial, ?_⟩; gi_at_call 46; refine (callsIn_wide.2 (chunk_go _ _ _ _)).mono ?_; rintro e w2 ⟨rfl, hww⟩; have hww := hww.symm; subst hww)
    obtain ⟨wB, hwB⟩ : ∃ wB, (((W.alloc (.cells #[.int .i64 0] 3)).alloc (.cells #[.slice (some a) val.length c] 23)).alloc (.cells #[.int .i64 238] 3)) = wB := ⟨_, rfl⟩
    have hBW : Below W.heap.size W wB := by
      rw [← hwB]
      exact (((Below.refl W.heap.size W).alloc (by simp) _).alloc (by simp) _).alloc (by simp; omega) _
    have hsB : wB.heap.size = W.heap.size + 3 := by rw [← hwB]; simp
    have hB0 : Blk wB W.heap.size 3 #[.int .i64 0] := by rw [← hwB]; exact ((Blk.new W _ _).alloc _).alloc _
    have hB1 : Blk wB (W.heap.size + 1) 23 #[.slice (some a) val.length c] := by rw [← hwB]; exact (blk_at (by simp)).alloc _
    have hB2 : Blk wB (W.heap.size + 2) 3 #[.int .i64 238] := by rw [← hwB]; exact blk_at (by simp)
    rw [hwB]
    clear hwB
    rw [HL.out] at hB0 hB1 hB2 hsB ⊢
    obtain ⟨q1, q2, q3, q4⟩ := HI.out
    have hrow : RowN W wA.heap.size (fun _ => False) A1 c1 (List.range' t.pages (nCh val)) := ⟨by rw [List.length_range']; exact q3, fun _ _ h9 => h9⟩
    obtain ⟨gp, rfl, hpc, _⟩ := hrow.cell (List.getElem?_eq_getElem (show 0 < (List.range' t.pages (nCh val)).length by rw [List.length_range']; omega))
    rw [List.length_range'] at hpc
    have hpg : ∀ j, j < nCh val → W.cell? ⟨gp, j, none⟩ = some (.int .u32 ((t.pages + j : Nat) : Int)) := fun j hj => by
      obtain ⟨g', e, _, hcj⟩ := hrow.cell (List.getElem?_eq_getElem (show j < (List.range' t.pages (nCh val)).length by rw [List.length_range']; exact hj))
      cases e
      rw [hcj, List.getElem_range', Nat.one_mul]
    have hgp : gp < W.heap.size ∧ wA.heap.size ≤ gp := hrow.lt _ rfl
    have hgL : gp < L := by rw [← HL.out]; exact hgp.1
    have hcg : isC W gp := own_isC q3 _ rfl
    have hst2 := chunk_seq 2 (by omega) (L + 1) (L + 2) val.length c a h2 hc wB (by omega) (by omega) (hB1.cell 0) (hB2.cell 0)
    have hokA : (tA t (nCh val)).OK := by
      have h0 := hB.ok.head
      exact ⟨hB.ok.lsn, ⟨by show 2 ≤ t.pages + _; omega, by show t.pages + _ ≤ 512; omega, h0.2.2.1, by show t.root < t.pages + _; omega, by show t.free < t.pages + _; omega⟩, hB.ok.entries, fun x hx => by have := hB.ok.keys x hx; exact ⟨this.1, by show x.1 < t.pages + _; omega⟩, hB.ok.nodup⟩
    have hLs : wA.heap.size ≤ L := by rw [← HL.out]; exact hsz0
    have HP := Lib.hid (And.intro q1 (And.intro q2 (And.intro q4 hokA)))
    have hpgB : ∀ j, j < nCh val → wB.cell? ⟨gp, j, none⟩ = some (.int .u32 ((t.pages + j : Nat) : Int)) := fun j hj => (hBW.cell (p := ⟨gp, j, none⟩) hgp.1).trans (hpg j hj)
    have hA0B : Blk wB w.heap.size 32 #[.pointer (some ⟨T, 0, none⟩)] := (hA0.fr q4 (fun h9 => h9.elim (fun h8 => by have := hX _ h8; omega) (fun h8 => by omega))).below hBW (by rw [HL.out]; omega)
    have hA3B : Blk wB (w.heap.size + 3) 35 #[.slice (some ⟨gp, 0, none⟩) (nCh val) c1] := q2.below hBW (by rw [HL.out]; omega)
    have hA1B : Blk wB (w.heap.size + 1) 22 #[.int .u32 0] := (hA1.fr q4 (fun h9 => h9.elim (fun h8 => by have := hX _ h8; omega) (fun h8 => by omega))).below hBW (by rw [HL.out]; omega)
    have hA2B : Blk wB (w.heap.size + 2) 37 #[.nilIface] := (hA2.fr q4 (fun h9 => h9.elim (fun h8 => by have := hX _ h8; omega) (fun h8 => by omega))).below hBW (by rw [HL.out]; omega)
    have hcgB : isC wB gp := by obtain ⟨o, ho, hco⟩ := hcg; exact ⟨o, (hBW.block gp hgp.1).trans ho, hco⟩
    have hTB : TX X wB T M (tA t (nCh val)) := q1.keep (KeepX.of_below hBW)
    have hab : a.block < w.heap.size := by obtain ⟨ad, e9, h9, _⟩ := HH.out.2.2.2 (by omega); cases e9; exact h9
    have htW : PowAt W := powFr (powBelow ht hbA) q4 (fun h9 => h9.elim hX1 (fun h8 => by omega))
    have htB : PowAt wB := powBelow htW hBW
    have hrW : Reads W w.heap.size 1 (some a) val.length (bl val) := reads_far (HH.out.2.2.below hbA) q4 hbA.size (fun ad e => by cases e; exact fun h9 => h9.elim hXa (fun h8 => by omega))
    have hrB : Reads wB w.heap.size 1 (some a) val.length (bl val) := hrW.below (hBW.mono (Nat.le_trans hbA.size hsz0))
    have hDW : D < W.heap.size := (Array.getElem?_eq_some_iff.1 hK).1
    have hKB : wB.heap[D]? = some (.deferred (some [])) := (hBW.block D hDW).trans hK
    have hFB : Fr X w wB := ⟨hBW.os.trans (q4.os.trans hbA.os), hBW.tape.trans (q4.tape.trans hbA.tape), hBW.output.trans (q4.output.trans hbA.output), by omega, fun j hj hx => (hBW.block j (by omega)).trans ((q4.block j (by omega) (fun h9 => h9.elim hx (fun h8 => by omega))).trans (hbA.block j hj))⟩
    rw [HL.out] at hDW
    clear q1 q2 q3 q4 hrow hpg hcg hBW hrW htW
    refine' wpIn_rangeFunc_ownN rfl (by omega) (gf := 81) (lb := #[.pointer (some ⟨L + 1, 0, none⟩), .pointer (some ⟨L + 2, 0, none⟩)]) rfl trivial (enters_of Tryz.func81 (by kernel_rfl) rfl) hst2 keepC_t ?hkb2 (Below.refl _ _) (fun _ => rfl)
      (fun k V => k ≤ nCh val ∧ (∃ (Xk : Nat → Prop) (tk : PT), TX Xk V T M tk ∧ (∀ j, Xk j → X j ∨ (wB.heap.size ≤ j ∧ isC V j)) ∧ tk.OK ∧ tk.pages = t.pages + nCh val ∧ tk.lsn = t.lsn ∧ putsT (tA t (nCh val)) (List.range' t.pages (nCh val)) val = putsT tk ((List.range' t.pages (nCh val)).drop k) (val.drop (238 * k))) ∧ Blk V L 3 #[.int .i64 k] ∧ Fr (fun j => X j ∨ j = L) wB V)
      (fun _ _ _ => False) ?hi2 ?hix2 ?h02 _ ?assign2 ?body2 ?done2 ?stop2
    case hkb2 =>
      intro V l o o' hl ho hc9 hw9
      have hgb := grownBy_putObj' V l o'
      have hlt := (Array.getElem?_eq_some_iff.1 ho).1
      exact ⟨World.cell?_of_block (hgb.block (L + 1) (by omega) (fun e => by cases e; omega)), World.cell?_of_block (hgb.block (L + 2) (by omega) (fun e => by cases e; omega))⟩
    case hi2 =>
      rintro k V V' row ⟨p0, ⟨Xk, tk, p1, p2, p3⟩, p4, p5⟩ hg9 hr9
      have hlo : ∀ j, j < wB.heap.size → some j ≠ row := fun j hj e => by obtain ⟨h8, _⟩ := hr9 j e.symm; omega
      have hne : ∀ j, Xk j → some j ≠ row := fun j hj e => by
        obtain ⟨h8, o, ho, hco⟩ := hr9 j e.symm
        rcases p2 j hj with h7 | ⟨_, h7⟩
        · have := hX j h7; omega
        · exact isC_not h7 ho hco
      refine ⟨p0, ⟨Xk, tk, p1.keep ⟨hg9.size, fun j hj hl => hg9.block j hl (hne j hj)⟩, fun j hj => (p2 j hj).imp id fun ⟨h8, o, ho, hco⟩ => ⟨h8, o, (hg9.block j (Array.getElem?_eq_some_iff.1 ho).1 (hne j hj)).trans ho, hco⟩, p3⟩, (hg9.block _ p4.lt (hlo _ (by omega))).trans p4, ?_⟩
      exact ⟨hg9.os.trans p5.os, hg9.tape.trans p5.tape, hg9.output.trans p5.output, Nat.le_trans p5.size hg9.size, fun j hj hx => (hg9.block j (Nat.lt_of_lt_of_le hj p5.size) (hlo j hj)).trans (p5.block j hj hx)⟩
    case hix2 => exact fun _ _ _ _ _ hs _ _ => hs
    case h02 => exact ⟨Nat.zero_le _, ⟨X, _, hTB, fun j hj => .inl hj, hokA, rfl, rfl, rfl⟩, hB0, Fr.refl _ _⟩
    case assign2 =>
      intro l x V K hK
      gi_wp2
      exact hK
    case body2 =>
      rintro l k x V hx ⟨p0, ⟨Xk, tk, p1, p2, p3, p6, p7, p8⟩, p4, p5⟩
      have hkN : k < nCh val := by have := (List.getElem?_eq_some_iff.1 hx).1; rwa [hN] at this
      obtain rfl : x = k := by
        rw [List.getElem?_range (show k < nChN val.length from hkN)] at hx
        exact (Option.some.inj hx).symm
      have hX3 : ∀ j, w.heap.size ≤ j → j < L → ¬ (X j ∨ j = L) := fun j h8 h9 h7 => h7.elim (fun h6 => by have := hX j h6; omega) (fun h6 => by omega)
      have hct : V.cell? ⟨w.heap.size, 0, none⟩ = some (.pointer (some ⟨T, 0, none⟩)) := (hA0B.fr p5 (hX3 _ (by omega) (by omega))).cell 0
      have hcp : V.cell? ⟨w.heap.size + 3, 0, none⟩ = some (.slice (some ⟨gp, 0, none⟩) (nCh val) c1) := (hA3B.fr p5 (hX3 _ (by omega) (by omega))).cell 0
      have hci : V.cell? ⟨L, 0, none⟩ = some (.int .i64 x) := p4.cell 0
      have hkl : 238 * x < val.length := by unfold nCh at hkN; omega
      have hsV := p5.size
      have v1 : L < V.heap.size := by omega
      have v2 : gp < V.heap.size := by omega
      have v3 : w.heap.size < V.heap.size := by omega
      have v4 : w.heap.size + 3 < V.heap.size := by omega
      have v5 : ¬ V.heap.size = L := by omega
      have v6 : ¬ V.heap.size = gp := by omega
      have v7 : ¬ V.heap.size = w.heap.size := by omega
      have v8 : ¬ V.heap.size = w.heap.size + 3 := by omega
      obtain ⟨m, HM⟩ : ∃ m, Hid (min 238 (val.length - 238 * x) = m) := ⟨_, Lib.hid rfl⟩
      obtain ⟨I, HI2⟩ : ∃ I, Hid (238 * x = I) := ⟨_, Lib.hid rfl⟩
      unfold chV
      rw [HM.out, HI2.out]
      have hpN : ∀ j, j < nCh val → V.cell? ⟨gp, j, none⟩ = some (.int .u32 ((t.pages + j : Nat) : Int)) := fun j hj => by
        rw [World.cell?_of_block (w := wB) (w' := V) (p5.block gp (by omega) (hX3 gp (by omega) hgL))]
        exact hpgB j hj
      obtain ⟨n0, HN0⟩ : ∃ n0, Hid (t.pages + x = n0) := ⟨_, Lib.hid rfl⟩
      have hcx := hpN x hkN
      rw [HN0.out] at hcx
      have HV := Lib.hid (And.intro p1 (And.intro p2 (And.intro p3 (And.intro p6 (And.intro p7 (And.intro p8 (And.intro p4 (And.intro p5 hpN))))))))
      clear p1 p2 p3 p6 p7 p8 p4 p5 hpN
      have z1 : IntKind.i64.wrap ((x : Int) + 1) = (x : Int) + 1 := by rw [IntKind.wrap_i64]; omega
      obtain ⟨d, HD⟩ : ∃ d, Hid ((val.drop I).take m = d) := ⟨_, Lib.hid rfl⟩
      have hIm : I + m ≤ val.length := by have := HM.out; have := HI2.out; omega
      have hdm : d.length = m := by rw [← HD.out, List.length_take, List.length_drop]; omega
      have hd238 : (val.drop I).take 238 = d := by
        rw [← HD.out]
        exact List.take_eq_take_iff.2 (by rw [List.length_drop]; have := HM.out; have := HI2.out; omega)
      have hm1 : 1 ≤ m ∧ m ≤ 238 := by have := HM.out; omega
      have hn0 : 2 ≤ n0 ∧ n0 < t.pages + nCh val := by have := HN0.out; have := hB.ok.head; omega
      have hp2 : 2 ≤ t.pages := hB.ok.head.1
      have hPutA : ∀ (nx : Nat) (hnx : nx < 4294967296) (wC : World), Below V.heap.size V wC →
          Calls Tryz.prog 19 #[.pointer (some ⟨T, 0, none⟩), .int .u32 (n0 : Nat), .agg #[.int .i64 4, .int .u64 0, .slice none 0 0, .int .u32 (nx : Nat), .slice (some (a.add I)) m m, .int .u32 0, .int .u32 0, .int .u32 0, .int .u64 0]] wC.drew fun e V2 => e = .returned .nilIface ∧ TX (moreX Xk wC.drew) V2 T M (putT tk n0 (overPg 0 nx d)) ∧ Fr Xk wC.drew V2 := by
        intro nx hnx wC hVC
        obtain ⟨p1, p2, p3, p6, p7, p8, p4, p5, _⟩ := HV.out
        have hVCd : Below V.heap.size V wC.drew := ⟨hVC.os, hVC.tape, hVC.output, hVC.size, hVC.block⟩
        have hX1k : ¬ Xk 1 := fun h9 => (p2 1 h9).elim hX1 (fun h8 => by omega)
        have hrV : Reads V w.heap.size 1 (some a) val.length (bl val) := reads_far hrB p5 (by omega) (fun ad e => by cases e; exact fun h9 => h9.elim hXa (fun h8 => by omega))
        have hrs := reads_sub hrV (m := I) (n := m) hIm
        rw [HD.out] at hrs
        have hrs2 : Reads wC.drew wC.drew.heap.size 1 (some (a.add I)) d.length (bl d) := by
          rw [hdm]
          exact reads_mono (hrs.below (hVCd.mono (by omega))) (by have := hVC.size; show w.heap.size ≤ wC.heap.size; omega)
        have hi0 : isPageT tk n0 = 0 := by unfold isPageT; rw [if_neg (by omega)]
        have hlay := (lay_over tk n0 nx d hi0 ⟨by omega, by omega⟩).1
        have hL0 : layE tk (overPg 0 nx d) = 0 := by unfold putE' at hlay; rw [hi0, if_neg (by simp)] at hlay; exact hlay
        have hP := Put_ok (x := ⟨4, 0, none, 0, [], nx, some (a.add I), m, d, 0, 0, 0, 0⟩) (p1.keep (KeepX.of_below hVCd)) n0 (by omega) ⟨⟨.inl rfl, fun y hy => absurd hy (by simp), fun y hy => absurd hy (by simp)⟩, hrs2, fun y hy => absurd hy (by simp), Nat.zero_le _, by show d.length ≤ _; omega⟩ (overPg_fit p3.lsn hnx) hi0 hL0 (powBelow (powFr htB p5 (fun h9 => h9.elim hX1 (fun h8 => by omega))) hVCd) hX1k
        unfold NX.val nodeV at hP
        dsimp only [List.length_nil] at hP
        simp only [Int.natCast_zero] at hP
        rw [hdm] at hP
        exact hP
      by_cases hk1 : x + 1 < nCh val
      · have d1 : decide ((x : Int) + 1 < (nCh val : Int)) = true := decide_eq_true (by omega)
        have d2 : decide (x + 1 < nCh val) = true := decide_eq_true hk1
        obtain ⟨nx, HNX⟩ : ∃ nx, Hid (t.pages + (x + 1) = nx) := ⟨_, Lib.hid rfl⟩
        have hcx1 := HV.out.2.2.2.2.2.2.2.2 (x + 1) hk1
        rw [HNX.out] at hcx1
        have b1 : (0 : Int) ≤ (x : Int) + 1 := by omega
        have b2 : (x : Int) + 1 < (nCh val : Int) := by omega
        have b3 : ((x : Int) + 1).toNat = x + 1 := by omega
        gi_wp2
        obtain ⟨wC, hwC⟩ : ∃ wC, V.alloc (.cells #[.int .i64 4, .int .u64 0, .slice none 0 0, .int .u32 (nx : Nat), .slice (some (a.add I)) m m, .int .u32 0, .int .u32 0, .int .u32 0, .int .u64 0] 52) = wC := ⟨_, rfl⟩
        have hVC : Below V.heap.size V wC := by rw [← hwC]; exact (Below.refl _ V).alloc (Nat.le_refl _) _
        have hNC : Blk wC V.heap.size 52 #[.int .i64 4, .int .u64 0, .slice none 0 0, .int .u32 (nx : Nat), .slice (some (a.add I)) m m, .int .u32 0, .int .u32 0, .int .u32 0, .int .u64 0] := by rw [← hwC]; exact Blk.new _ _ _
        have hsC : wC.heap.size = V.heap.size + 1 := by rw [← hwC]; simp
        have e1 := (hVC.cell (p := ⟨w.heap.size, 0, none⟩) v3).trans hct
        have e2 := (hVC.cell (p := ⟨w.heap.size + 3, 0, none⟩) v4).trans hcp
        have e3 := (hVC.cell (p := ⟨L, 0, none⟩) v1).trans hci
        have e4 := (hVC.cell (p := ⟨gp, x, none⟩) v2).trans hcx
        rw [hwC]
        have HWC := Lib.hid hwC
        clear hwC hct hcp hci hcx
        have hS0 : (fun W => W.cell? ⟨w.heap.size, 0, none⟩ = some (.pointer (some ⟨T, 0, none⟩)) ∧ W.cell? ⟨w.heap.size + 3, 0, none⟩ = some (.slice (some ⟨gp, 0, none⟩) (nCh val) c1) ∧ W.cell? ⟨L, 0, none⟩ = some (.int .i64 x) ∧ W.cell? ⟨gp, x, none⟩ = some (.int .u32 (n0 : Nat)) ∧ W.cell? ⟨V.heap.size, 0, none⟩ = some (.int .i64 4) ∧ W.cell? ⟨V.heap.size, 1, none⟩ = some (.int .u64 0) ∧ W.cell? ⟨V.heap.size, 2, none⟩ = some (.slice none 0 0) ∧ W.cell? ⟨V.heap.size, 3, none⟩ = some (.int .u32 (nx : Nat)) ∧ W.cell? ⟨V.heap.size, 4, none⟩ = some (.slice (some (a.add I)) m m) ∧ W.cell? ⟨V.heap.size, 5, none⟩ = some (.int .u32 0) ∧ W.cell? ⟨V.heap.size, 6, none⟩ = some (.int .u32 0) ∧ W.cell? ⟨V.heap.size, 7, none⟩ = some (.int .u32 0) ∧ W.cell? ⟨V.heap.size, 8, none⟩ = some (.int .u64 0)) wC := ⟨e1, e2, e3, e4, hNC.cell 0, hNC.cell 1, hNC.cell 2, hNC.cell 3, hNC.cell 4, hNC.cell 5, hNC.cell 6, hNC.cell 7, hNC.cell 8⟩
        clear e1 e2 e3 e4
        have hPut := hPutA nx (by have := HNX.out; omega) wC hVC
        refine regionEI 7 (fun W => W.cell? ⟨w.heap.size, 0, none⟩ = some (.pointer (some ⟨T, 0, none⟩)) ∧ W.cell? ⟨w.heap.size + 3, 0, none⟩ = some (.slice (some ⟨gp, 0, none⟩) (nCh val) c1) ∧ W.cell? ⟨L, 0, none⟩ = some (.int .i64 x) ∧ W.cell? ⟨gp, x, none⟩ = some (.int .u32 (n0 : Nat)) ∧ W.cell? ⟨V.heap.size, 0, none⟩ = some (.int .i64 4) ∧ W.cell? ⟨V.heap.size, 1, none⟩ = some (.int .u64 0) ∧ W.cell? ⟨V.heap.size, 2, none⟩ = some (.slice none 0 0) ∧ W.cell? ⟨V.heap.size, 3, none⟩ = some (.int .u32 (nx : Nat)) ∧ W.cell? ⟨V.heap.size, 4, none⟩ = some (.slice (some (a.add I)) m m) ∧ W.cell? ⟨V.heap.size, 5, none⟩ = some (.int .u32 0) ∧ W.cell? ⟨V.heap.size, 6, none⟩ = some (.int .u32 0) ∧ W.cell? ⟨V.heap.size, 7, none⟩ = some (.int .u32 0) ∧ W.cell? ⟨V.heap.size, 8, none⟩ = some (.int .u64 0)) (by intro o ho c9 hc9; simp only [List.mem_cons, List.not_mem_nil, or_false] at ho; rcases ho with rfl | rfl | rfl | rfl | rfl | rfl | rfl | rfl <;> cases hc9) (by rintro ⟨_, _, h9⟩; exact h9) (by kernel_rfl) (by kernel_rfl) (by kernel_rfl) (by kernel_rfl) (by kernel_rfl) hS0 (fun hHeld hTl => ?_)
        refine takeE 0 (v := ?_) hTl rfl (by decide) (by kernel_rfl) (by kernel_rfl) (fun _ _ _ h => h) hHeld (Or.inl ⟨by rfl, ?_⟩) (fun hTl => ?_)
        rotate_left
        · intro w hSw; (try dsimp only at hSw); go_simp
          all_goals with_reducible rfl
        try simp only [Act.put, List.setIfInBounds_toArray, List.set_cons_zero, List.set_cons_succ]
        refine takeE 1 (v := ?_) hTl rfl (by decide) (by kernel_rfl) (by kernel_rfl) (fun _ _ _ h => h) hHeld (Or.inl ⟨by rfl, ?_⟩) (fun hTl => ?_)
        rotate_left
        · intro w hSw; (try dsimp only at hSw); go_simp
          all_goals with_reducible rfl
        try simp only [Act.put, List.setIfInBounds_toArray, List.set_cons_zero, List.set_cons_succ]
        refine takeE 2 (v := ?_) hTl rfl (by decide) (by kernel_rfl) (by kernel_rfl) (fun _ _ _ h => h) hHeld (Or.inl ⟨by rfl, ?_⟩) (fun hTl => ?_)
        rotate_left
        · intro w hSw; (try dsimp only at hSw); go_simp
          all_goals with_reducible rfl
        try simp only [Act.put, List.setIfInBounds_toArray, List.set_cons_zero, List.set_cons_succ]
        refine takeE 3 (v := ?_) hTl rfl (by decide) (by kernel_rfl) (by kernel_rfl) (fun _ _ _ h => h) hHeld (Or.inl ⟨by rfl, ?_⟩) (fun hTl => ?_)
        rotate_left
        · intro w hSw; (try dsimp only at hSw); go_simp
          all_goals with_reducible rfl
        try simp only [Act.put, List.setIfInBounds_toArray, List.set_cons_zero, List.set_cons_succ]
        refine takeE 4 (v := ?_) hTl rfl (by decide) (by kernel_rfl) (by kernel_rfl) (fun _ _ _ h => h) hHeld (Or.inl ⟨by rfl, ?_⟩) (fun hTl => ?_)
        rotate_left
        · intro w hSw; (try dsimp only at hSw); go_simp
          all_goals with_reducible rfl
        try simp only [Act.put, List.setIfInBounds_toArray, List.set_cons_zero, List.set_cons_succ]
        refine takeE 5 (v := ?_) hTl rfl (by decide) (by kernel_rfl) (by kernel_rfl) (fun _ _ _ h => h) hHeld (Or.inl ⟨by rfl, ?_⟩) (fun hTl => ?_)
        rotate_left
        · intro w hSw; (try dsimp only at hSw); go_simp
          all_goals with_reducible rfl
        try simp only [Act.put, List.setIfInBounds_toArray, List.set_cons_zero, List.set_cons_succ]
        refine oneE 6 rfl (by kernel_rfl) (fun K hK => ?_)
        refine step_callC rfl 19 _ (by go_simp) hPut ?_
        rintro e V2 ⟨rfl, hT2, hF2⟩; refine ⟨_, rfl, ?_⟩; have hnk : ∀ j, w.heap.size ≤ j → j < wB.heap.size ∨ j = V.heap.size → ¬ Xk j := (fun j hj hj2 hx9 => (HV.out.2.1 j hx9).elim (fun h9 => by have := hX j h9; omega) (fun h9 => by obtain ⟨h8, o8, ho8, _⟩ := h9; have := (Array.getElem?_eq_some_iff.1 ho8).1; omega)); have hkp : ∀ j, w.heap.size ≤ j → j < wB.heap.size ∨ j = V.heap.size → V2.heap[j]? = wC.heap[j]? := (fun j hj hj2 => hF2.block j (by show j < wC.heap.size; omega) (hnk j hj hj2)); have hS2 : (fun W => W.cell? ⟨w.heap.size, 0, none⟩ = some (.pointer (some ⟨T, 0, none⟩)) ∧ W.cell? ⟨w.heap.size + 3, 0, none⟩ = some (.slice (some ⟨gp, 0, none⟩) (nCh val) c1) ∧ W.cell? ⟨L, 0, none⟩ = some (.int .i64 x) ∧ W.cell? ⟨gp, x, none⟩ = some (.int .u32 (n0 : Nat)) ∧ W.cell? ⟨V.heap.size, 0, none⟩ = some (.int .i64 4) ∧ W.cell? ⟨V.heap.size, 1, none⟩ = some (.int .u64 0) ∧ W.cell? ⟨V.heap.size, 2, none⟩ = some (.slice none 0 0) ∧ W.cell? ⟨V.heap.size, 3, none⟩ = some (.int .u32 (nx : Nat)) ∧ W.cell? ⟨V.heap.size, 4, none⟩ = some (.slice (some (a.add I)) m m) ∧ W.cell? ⟨V.heap.size, 5, none⟩ = some (.int .u32 0) ∧ W.cell? ⟨V.heap.size, 6, none⟩ = some (.int .u32 0) ∧ W.cell? ⟨V.heap.size, 7, none⟩ = some (.int .u32 0) ∧ W.cell? ⟨V.heap.size, 8, none⟩ = some (.int .u64 0)) V2 := ⟨(World.cell?_of_block (hkp w.heap.size (by omega) (by omega))).trans hS0.1, (World.cell?_of_block (hkp (w.heap.size + 3) (by omega) (by omega))).trans hS0.2.1, (World.cell?_of_block (hkp L (by omega) (by omega))).trans hS0.2.2.1, (World.cell?_of_block (hkp gp (by omega) (by omega))).trans hS0.2.2.2.1, (World.cell?_of_block (hkp V.heap.size (by omega) (.inr rfl))).trans (hNC.cell 0), (World.cell?_of_block (hkp V.heap.size (by omega) (.inr rfl))).trans (hNC.cell 1), (World.cell?_of_block (hkp V.heap.size (by omega) (.inr rfl))).trans (hNC.cell 2), (World.cell?_of_block (hkp V.heap.size (by omega) (.inr rfl))).trans (hNC.cell 3), (World.cell?_of_block (hkp V.heap.size (by omega) (.inr rfl))).trans (hNC.cell 4), (World.cell?_of_block (hkp V.heap.size (by omega) (.inr rfl))).trans (hNC.cell 5), (World.cell?_of_block (hkp V.heap.size (by omega) (.inr rfl))).trans (hNC.cell 6), (World.cell?_of_block (hkp V.heap.size (by omega) (.inr rfl))).trans (hNC.cell 7), (World.cell?_of_block (hkp V.heap.size (by omega) (.inr rfl))).trans (hNC.cell 8)⟩
        refine hK.out _ _ (fun _ => hS2) ?_
        clear hK K
        try simp only [Act.put, List.setIfInBounds_toArray, List.set_cons_zero, List.set_cons_succ]
        refine oneE 7 rfl (by kernel_rfl) (fun K hK => ?_)
        go_simp
        refine hK.out _ _ (fun h => absurd h (by decide)) ?_
        clear hK K
        try simp only [Act.put, List.setIfInBounds_toArray, List.set_cons_zero, List.set_cons_succ]
        refine doneE (by kernel_rfl) ?_ _
        have hXM : X M := by obtain ⟨_, _, _, h9⟩ := HH.out.1; exact h9.xM
        have hcL2 := hS2.2.2.1
        have hBL2 : Blk V2 L 3 #[.int .i64 x] := (hkp L (by omega) (by omega)).trans ((hVC.block L v1).trans HV.out.2.2.2.2.2.2.1)
        have hfL2 := hBL2.frozen 0
        gi_wp2
        obtain ⟨p1, p2, p3, p6, p7, p8, p4, p5, _⟩ := HV.out
        have hs2C : wC.heap.size ≤ V2.heap.size := hF2.size
        have hset : ∀ j, j ≠ L → (V2.setCell ⟨L, 0, none⟩ (.int .i64 ((x : Int) + 1))).heap[j]? = V2.heap[j]? := fun j hj => Below.heap_setCell V2 ⟨L, 0, none⟩ _ j hj
        have hssz : (V2.setCell ⟨L, 0, none⟩ (.int .i64 ((x : Int) + 1))).heap.size = V2.heap.size := by simp [World.setCell]
        have hisC : ∀ j, j ≠ L → isC V2 j → isC (V2.setCell ⟨L, 0, none⟩ (.int .i64 ((x : Int) + 1))) j := fun j hj ⟨o, ho, hco⟩ => ⟨o, (hset j hj).trans ho, hco⟩
        have hi0 : isPageT tk n0 = 0 := by unfold isPageT; rw [if_neg (by omega)]
        obtain ⟨l1, l2⟩ := lay_over tk n0 nx d hi0 ⟨by omega, by omega⟩
        have hdr : (List.range' t.pages (nCh val)).drop x = n0 :: (List.range' t.pages (nCh val)).drop (x + 1) := by
          rw [List.drop_eq_getElem_cons (by rw [List.length_range']; exact hkN), List.getElem_range', Nat.one_mul, HN0.out]
        have hhd : ((List.range' t.pages (nCh val)).drop (x + 1)).headD 0 = nx := by
          rw [List.drop_eq_getElem_cons (by rw [List.length_range']; exact hk1), List.getElem_range', Nat.one_mul, HNX.out]
          rfl
        have hv2 : (val.drop (238 * x)).drop 238 = val.drop (238 * (x + 1)) := by rw [List.drop_drop, show 238 * x + 238 = 238 * (x + 1) by omega]
        refine ⟨⟨by rw [hssz]; omega, fun j o hj ho hco => ?_⟩, ⟨World.cell?_of_block ((hset (L + 1) (by omega)).trans ((hkp (L + 1) (by omega) (.inl (by omega))).trans (hVC.block (L + 1) (by omega)))), World.cell?_of_block ((hset (L + 2) (by omega)).trans ((hkp (L + 2) (by omega) (.inl (by omega))).trans (hVC.block (L + 2) (by omega))))⟩, by omega,
          ⟨fun j => moreX Xk wC.drew j ∧ (j = M ∨ isC V2 j), putT tk n0 (overPg 0 nx d), hT2.cells.keep ⟨by rw [hssz]; exact Nat.le_refl _, fun j hj hl => hset j (fun e9 => ?_)⟩, fun j hj => ?_, putT_ok p3 n0 _, by rw [l2]; exact p6, by rw [l2]; exact p7, ?_⟩, hBL2.set_ 0 (.int .i64 ((x : Int) + 1)), ?_⟩
        · have hjl := (Array.getElem?_eq_some_iff.1 ho).1
          refine (hset j (by omega)).trans ((hF2.block j (by show j < wC.heap.size; omega) (fun hx9 => (p2 j hx9).elim (fun h9 => by have := hX j h9; omega) (fun h9 => isC_not h9.2 ho hco))).trans ((hVC.block j hjl).trans ho))
        · rw [e9] at hj
          exact hj.1.elim (hnk L (by omega) (.inl (by omega))) (fun h9 => by have h9 : wC.heap.size ≤ L := h9; omega)
        · rcases hj.2 with rfl | h9
          · exact .inl hXM
          · rcases hj.1 with h8 | h8
            · rcases p2 j h8 with h7 | h7
              · exact .inl h7
              · exact .inr ⟨by have := h7.1; omega, hisC j (by have := h7.1; omega) h9⟩
            · have h8 : wC.heap.size ≤ j := h8
              exact .inr ⟨by omega, hisC j (by omega) h9⟩
        · rw [p8, hdr]
          show (if putE' tk n0 (overPg 0 (((List.range' t.pages (nCh val)).drop (x + 1)).headD 0) ((val.drop (238 * x)).take 238)) ≠ 0 then _ else putsT (putT tk n0 (overPg 0 (((List.range' t.pages (nCh val)).drop (x + 1)).headD 0) ((val.drop (238 * x)).take 238))) ((List.range' t.pages (nCh val)).drop (x + 1)) ((val.drop (238 * x)).drop 238)) = _
          rw [hhd, hv2, show (val.drop (238 * x)).take 238 = d by rw [HI2.out]; exact hd238, l1, if_neg (by simp)]
          simp
        · refine ⟨hF2.os.trans (hVC.os.trans p5.os), hF2.tape.trans (hVC.tape.trans p5.tape), hF2.output.trans (hVC.output.trans p5.output), by rw [hssz]; omega, fun j hj hx9 => ?_⟩
          rw [not_or] at hx9
          rw [hset j hx9.2, hF2.block j (by show j < wC.heap.size; omega) (fun h9 => (p2 j h9).elim hx9.1 (fun h8 => by omega))]
          exact (hVC.block j (by omega)).trans (p5.block j hj (by rw [not_or]; exact hx9))
      · have d1 : decide ((x : Int) + 1 < (nCh val : Int)) = false := decide_eq_false (by omega)
        have d2 : decide (x + 1 < nCh val) = false := decide_eq_false hk1
        gi_wp2
        obtain ⟨wC, hwC⟩ : ∃ wC, V.alloc (.cells #[.int .i64 4, .int .u64 0, .slice none 0 0, .int .u32 0, .slice (some (a.add I)) m m, .int .u32 0, .int .u32 0, .int .u32 0, .int .u64 0] 52) = wC := ⟨_, rfl⟩
        have hVC : Below V.heap.size V wC := by rw [← hwC]; exact (Below.refl _ V).alloc (Nat.le_refl _) _
        have hNC : Blk wC V.heap.size 52 #[.int .i64 4, .int .u64 0, .slice none 0 0, .int .u32 0, .slice (some (a.add I)) m m, .int .u32 0, .int .u32 0, .int .u32 0, .int .u64 0] := by rw [← hwC]; exact Blk.new _ _ _
        have hsC : wC.heap.size = V.heap.size + 1 := by rw [← hwC]; simp
        have e1 := (hVC.cell (p := ⟨w.heap.size, 0, none⟩) v3).trans hct
        have e2 := (hVC.cell (p := ⟨w.heap.size + 3, 0, none⟩) v4).trans hcp
        have e3 := (hVC.cell (p := ⟨L, 0, none⟩) v1).trans hci
        have e4 := (hVC.cell (p := ⟨gp, x, none⟩) v2).trans hcx
        rw [hwC]
        have HWC := Lib.hid hwC
        clear hwC hct hcp hci hcx
        have hS0 : (fun W => W.cell? ⟨w.heap.size, 0, none⟩ = some (.pointer (some ⟨T, 0, none⟩)) ∧ W.cell? ⟨w.heap.size + 3, 0, none⟩ = some (.slice (some ⟨gp, 0, none⟩) (nCh val) c1) ∧ W.cell? ⟨L, 0, none⟩ = some (.int .i64 x) ∧ W.cell? ⟨gp, x, none⟩ = some (.int .u32 (n0 : Nat)) ∧ W.cell? ⟨V.heap.size, 0, none⟩ = some (.int .i64 4) ∧ W.cell? ⟨V.heap.size, 1, none⟩ = some (.int .u64 0) ∧ W.cell? ⟨V.heap.size, 2, none⟩ = some (.slice none 0 0) ∧ W.cell? ⟨V.heap.size, 3, none⟩ = some (.int .u32 0) ∧ W.cell? ⟨V.heap.size, 4, none⟩ = some (.slice (some (a.add I)) m m) ∧ W.cell? ⟨V.heap.size, 5, none⟩ = some (.int .u32 0) ∧ W.cell? ⟨V.heap.size, 6, none⟩ = some (.int .u32 0) ∧ W.cell? ⟨V.heap.size, 7, none⟩ = some (.int .u32 0) ∧ W.cell? ⟨V.heap.size, 8, none⟩ = some (.int .u64 0)) wC := ⟨e1, e2, e3, e4, hNC.cell 0, hNC.cell 1, hNC.cell 2, hNC.cell 3, hNC.cell 4, hNC.cell 5, hNC.cell 6, hNC.cell 7, hNC.cell 8⟩
        clear e1 e2 e3 e4
        have hPut := hPutA 0 (by omega) wC hVC
        simp only [Int.natCast_zero] at hPut
        refine regionEI 7 (fun W => W.cell? ⟨w.heap.size, 0, none⟩ = some (.pointer (some ⟨T, 0, none⟩)) ∧ W.cell? ⟨w.heap.size + 3, 0, none⟩ = some (.slice (some ⟨gp, 0, none⟩) (nCh val) c1) ∧ W.cell? ⟨L, 0, none⟩ = some (.int .i64 x) ∧ W.cell? ⟨gp, x, none⟩ = some (.int .u32 (n0 : Nat)) ∧ W.cell? ⟨V.heap.size, 0, none⟩ = some (.int .i64 4) ∧ W.cell? ⟨V.heap.size, 1, none⟩ = some (.int .u64 0) ∧ W.cell? ⟨V.heap.size, 2, none⟩ = some (.slice none 0 0) ∧ W.cell? ⟨V.heap.size, 3, none⟩ = some (.int .u32 0) ∧ W.cell? ⟨V.heap.size, 4, none⟩ = some (.slice (some (a.add I)) m m) ∧ W.cell? ⟨V.heap.size, 5, none⟩ = some (.int .u32 0) ∧ W.cell? ⟨V.heap.size, 6, none⟩ = some (.int .u32 0) ∧ W.cell? ⟨V.heap.size, 7, none⟩ = some (.int .u32 0) ∧ W.cell? ⟨V.heap.size, 8, none⟩ = some (.int .u64 0)) (by intro o ho c9 hc9; simp only [List.mem_cons, List.not_mem_nil, or_false] at ho; rcases ho with rfl | rfl | rfl | rfl | rfl | rfl | rfl | rfl <;> cases hc9) (by rintro ⟨_, _, h9⟩; exact h9) (by kernel_rfl) (by kernel_rfl) (by kernel_rfl) (by kernel_rfl) (by kernel_rfl) hS0 (fun hHeld hTl => ?_)
        refine takeE 0 (v := ?_) hTl rfl (by decide) (by kernel_rfl) (by kernel_rfl) (fun _ _ _ h => h) hHeld (Or.inl ⟨by rfl, ?_⟩) (fun hTl => ?_)
        rotate_left
        · intro w hSw; (try dsimp only at hSw); go_simp
          all_goals with_reducible rfl
        try simp only [Act.put, List.setIfInBounds_toArray, List.set_cons_zero, List.set_cons_succ]
        refine takeE 1 (v := ?_) hTl rfl (by decide) (by kernel_rfl) (by kernel_rfl) (fun _ _ _ h => h) hHeld (Or.inl ⟨by rfl, ?_⟩) (fun hTl => ?_)
        rotate_left
        · intro w hSw; (try dsimp only at hSw); go_simp
          all_goals with_reducible rfl
        try simp only [Act.put, List.setIfInBounds_toArray, List.set_cons_zero, List.set_cons_succ]
        refine takeE 2 (v := ?_) hTl rfl (by decide) (by kernel_rfl) (by kernel_rfl) (fun _ _ _ h => h) hHeld (Or.inl ⟨by rfl, ?_⟩) (fun hTl => ?_)
        rotate_left
        · intro w hSw; (try dsimp only at hSw); go_simp
          all_goals with_reducible rfl
        try simp only [Act.put, List.setIfInBounds_toArray, List.set_cons_zero, List.set_cons_succ]
        refine takeE 3 (v := ?_) hTl rfl (by decide) (by kernel_rfl) (by kernel_rfl) (fun _ _ _ h => h) hHeld (Or.inl ⟨by rfl, ?_⟩) (fun hTl => ?_)
        rotate_left
        · intro w hSw; (try dsimp only at hSw); go_simp
          all_goals with_reducible rfl
        try simp only [Act.put, List.setIfInBounds_toArray, List.set_cons_zero, List.set_cons_succ]
        refine takeE 4 (v := ?_) hTl rfl (by decide) (by kernel_rfl) (by kernel_rfl) (fun _ _ _ h => h) hHeld (Or.inl ⟨by rfl, ?_⟩) (fun hTl => ?_)
        rotate_left
        · intro w hSw; (try dsimp only at hSw); go_simp
          all_goals with_reducible rfl
        try simp only [Act.put, List.setIfInBounds_toArray, List.set_cons_zero, List.set_cons_succ]
        refine takeE 5 (v := ?_) hTl rfl (by decide) (by kernel_rfl) (by kernel_rfl) (fun _ _ _ h => h) hHeld (Or.inl ⟨by rfl, ?_⟩) (fun hTl => ?_)
        rotate_left
        · intro w hSw; (try dsimp only at hSw); go_simp
          all_goals with_reducible rfl
        try simp only [Act.put, List.setIfInBounds_toArray, List.set_cons_zero, List.set_cons_succ]
        refine oneE 6 rfl (by kernel_rfl) (fun K hK => ?_)
        refine step_callC rfl 19 _ (by go_simp) hPut ?_
        rintro e V2 ⟨rfl, hT2, hF2⟩; refine ⟨_, rfl, ?_⟩; have hnk : ∀ j, w.heap.size ≤ j → j < wB.heap.size ∨ j = V.heap.size → ¬ Xk j := (fun j hj hj2 hx9 => (HV.out.2.1 j hx9).elim (fun h9 => by have := hX j h9; omega) (fun h9 => by obtain ⟨h8, o8, ho8, _⟩ := h9; have := (Array.getElem?_eq_some_iff.1 ho8).1; omega)); have hkp : ∀ j, w.heap.size ≤ j → j < wB.heap.size ∨ j = V.heap.size → V2.heap[j]? = wC.heap[j]? := (fun j hj hj2 => hF2.block j (by show j < wC.heap.size; omega) (hnk j hj hj2)); have hS2 : (fun W => W.cell? ⟨w.heap.size, 0, none⟩ = some (.pointer (some ⟨T, 0, none⟩)) ∧ W.cell? ⟨w.heap.size + 3, 0, none⟩ = some (.slice (some ⟨gp, 0, none⟩) (nCh val) c1) ∧ W.cell? ⟨L, 0, none⟩ = some (.int .i64 x) ∧ W.cell? ⟨gp, x, none⟩ = some (.int .u32 (n0 : Nat)) ∧ W.cell? ⟨V.heap.size, 0, none⟩ = some (.int .i64 4) ∧ W.cell? ⟨V.heap.size, 1, none⟩ = some (.int .u64 0) ∧ W.cell? ⟨V.heap.size, 2, none⟩ = some (.slice none 0 0) ∧ W.cell? ⟨V.heap.size, 3, none⟩ = some (.int .u32 0) ∧ W.cell? ⟨V.heap.size, 4, none⟩ = some (.slice (some (a.add I)) m m) ∧ W.cell? ⟨V.heap.size, 5, none⟩ = some (.int .u32 0) ∧ W.cell? ⟨V.heap.size, 6, none⟩ = some (.int .u32 0) ∧ W.cell? ⟨V.heap.size, 7, none⟩ = some (.int .u32 0) ∧ W.cell? ⟨V.heap.size, 8, none⟩ = some (.int .u64 0)) V2 := ⟨(World.cell?_of_block (hkp w.heap.size (by omega) (by omega))).trans hS0.1, (World.cell?_of_block (hkp (w.heap.size + 3) (by omega) (by omega))).trans hS0.2.1, (World.cell?_of_block (hkp L (by omega) (by omega))).trans hS0.2.2.1, (World.cell?_of_block (hkp gp (by omega) (by omega))).trans hS0.2.2.2.1, (World.cell?_of_block (hkp V.heap.size (by omega) (.inr rfl))).trans (hNC.cell 0), (World.cell?_of_block (hkp V.heap.size (by omega) (.inr rfl))).trans (hNC.cell 1), (World.cell?_of_block (hkp V.heap.size (by omega) (.inr rfl))).trans (hNC.cell 2), (World.cell?_of_block (hkp V.heap.size (by omega) (.inr rfl))).trans (hNC.cell 3), (World.cell?_of_block (hkp V.heap.size (by omega) (.inr rfl))).trans (hNC.cell 4), (World.cell?_of_block (hkp V.heap.size (by omega) (.inr rfl))).trans (hNC.cell 5), (World.cell?_of_block (hkp V.heap.size (by omega) (.inr rfl))).trans (hNC.cell 6), (World.cell?_of_block (hkp V.heap.size (by omega) (.inr rfl))).trans (hNC.cell 7), (World.cell?_of_block (hkp V.heap.size (by omega) (.inr rfl))).trans (hNC.cell 8)⟩
        refine hK.out _ _ (fun _ => hS2) ?_
        clear hK K
        try simp only [Act.put, List.setIfInBounds_toArray, List.set_cons_zero, List.set_cons_succ]
        refine oneE 7 rfl (by kernel_rfl) (fun K hK => ?_)
        go_simp
        refine hK.out _ _ (fun h => absurd h (by decide)) ?_
        clear hK K
        try simp only [Act.put, List.setIfInBounds_toArray, List.set_cons_zero, List.set_cons_succ]
        refine doneE (by kernel_rfl) ?_ _
        have hXM : X M := by obtain ⟨_, _, _, h9⟩ := HH.out.1; exact h9.xM
        have hcL2 := hS2.2.2.1
        have hBL2 : Blk V2 L 3 #[.int .i64 x] := (hkp L (by omega) (by omega)).trans ((hVC.block L v1).trans HV.out.2.2.2.2.2.2.1)
        have hfL2 := hBL2.frozen 0
        gi_wp2
        obtain ⟨p1, p2, p3, p6, p7, p8, p4, p5, _⟩ := HV.out
        have hs2C : wC.heap.size ≤ V2.heap.size := hF2.size
        have hset : ∀ j, j ≠ L → (V2.setCell ⟨L, 0, none⟩ (.int .i64 ((x : Int) + 1))).heap[j]? = V2.heap[j]? := fun j hj => Below.heap_setCell V2 ⟨L, 0, none⟩ _ j hj
        have hssz : (V2.setCell ⟨L, 0, none⟩ (.int .i64 ((x : Int) + 1))).heap.size = V2.heap.size := by simp [World.setCell]
        have hisC : ∀ j, j ≠ L → isC V2 j → isC (V2.setCell ⟨L, 0, none⟩ (.int .i64 ((x : Int) + 1))) j := fun j hj ⟨o, ho, hco⟩ => ⟨o, (hset j hj).trans ho, hco⟩
        have hi0 : isPageT tk n0 = 0 := by unfold isPageT; rw [if_neg (by omega)]
        obtain ⟨l1, l2⟩ := lay_over tk n0 0 d hi0 ⟨by omega, by omega⟩
        have hdr : (List.range' t.pages (nCh val)).drop x = n0 :: (List.range' t.pages (nCh val)).drop (x + 1) := by
          rw [List.drop_eq_getElem_cons (by rw [List.length_range']; exact hkN), List.getElem_range', Nat.one_mul, HN0.out]
        have hhd : ((List.range' t.pages (nCh val)).drop (x + 1)).headD 0 = 0 := by
          rw [List.drop_eq_nil_of_le (by rw [List.length_range']; omega)]
          rfl
        have hv2 : (val.drop (238 * x)).drop 238 = val.drop (238 * (x + 1)) := by rw [List.drop_drop, show 238 * x + 238 = 238 * (x + 1) by omega]
        refine ⟨⟨by rw [hssz]; omega, fun j o hj ho hco => ?_⟩, ⟨World.cell?_of_block ((hset (L + 1) (by omega)).trans ((hkp (L + 1) (by omega) (.inl (by omega))).trans (hVC.block (L + 1) (by omega)))), World.cell?_of_block ((hset (L + 2) (by omega)).trans ((hkp (L + 2) (by omega) (.inl (by omega))).trans (hVC.block (L + 2) (by omega))))⟩, by omega,
          ⟨fun j => moreX Xk wC.drew j ∧ (j = M ∨ isC V2 j), putT tk n0 (overPg 0 0 d), hT2.cells.keep ⟨by rw [hssz]; exact Nat.le_refl _, fun j hj hl => hset j (fun e9 => ?_)⟩, fun j hj => ?_, putT_ok p3 n0 _, by rw [l2]; exact p6, by rw [l2]; exact p7, ?_⟩, hBL2.set_ 0 (.int .i64 ((x : Int) + 1)), ?_⟩
        · have hjl := (Array.getElem?_eq_some_iff.1 ho).1
          refine (hset j (by omega)).trans ((hF2.block j (by show j < wC.heap.size; omega) (fun hx9 => (p2 j hx9).elim (fun h9 => by have := hX j h9; omega) (fun h9 => isC_not h9.2 ho hco))).trans ((hVC.block j hjl).trans ho))
        · rw [e9] at hj
          exact hj.1.elim (hnk L (by omega) (.inl (by omega))) (fun h9 => by have h9 : wC.heap.size ≤ L := h9; omega)
        · rcases hj.2 with rfl | h9
          · exact .inl hXM
          · rcases hj.1 with h8 | h8
            · rcases p2 j h8 with h7 | h7
              · exact .inl h7
              · exact .inr ⟨by have := h7.1; omega, hisC j (by have := h7.1; omega) h9⟩
            · have h8 : wC.heap.size ≤ j := h8
              exact .inr ⟨by omega, hisC j (by omega) h9⟩
        · rw [p8, hdr]
          show (if putE' tk n0 (overPg 0 (((List.range' t.pages (nCh val)).drop (x + 1)).headD 0) ((val.drop (238 * x)).take 238)) ≠ 0 then _ else putsT (putT tk n0 (overPg 0 (((List.range' t.pages (nCh val)).drop (x + 1)).headD 0) ((val.drop (238 * x)).take 238))) ((List.range' t.pages (nCh val)).drop (x + 1)) ((val.drop (238 * x)).drop 238)) = _
          rw [hhd, hv2, show (val.drop (238 * x)).take 238 = d by rw [HI2.out]; exact hd238, l1, if_neg (by simp)]
          simp
        · refine ⟨hF2.os.trans (hVC.os.trans p5.os), hF2.tape.trans (hVC.tape.trans p5.tape), hF2.output.trans (hVC.output.trans p5.output), by rw [hssz]; omega, fun j hj hx9 => ?_⟩
          rw [not_or] at hx9
          rw [hset j hx9.2, hF2.block j (by show j < wC.heap.size; omega) (fun h9 => (p2 j h9).elim hx9.1 (fun h8 => by omega))]
          exact (hVC.block j (by omega)).trans (p5.block j hj (by rw [not_or]; exact hx9))
    case done2 =>
      rintro D2 V hD2 ⟨_, ⟨Xk, tk, p1, p2, p3, p6, p7, p8⟩, p4, p5⟩ hK2
      rw [hN] at p8 p4
      have hsV := p5.size
      have hX3 : ∀ j, w.heap.size ≤ j → j < L → ¬ (X j ∨ j = L) := fun j h8 h9 h7 => h7.elim (fun h6 => by have := hX j h6; omega) (fun h6 => by omega)
      have hcp : V.cell? ⟨w.heap.size + 3, 0, none⟩ = some (.slice (some ⟨gp, 0, none⟩) (nCh val) c1) := (hA3B.fr p5 (hX3 _ (by omega) (by omega))).cell 0
      have hr1 := hA1B.fr p5 (hX3 _ (by omega) (by omega))
      have hr2 := hA2B.fr p5 (hX3 _ (by omega) (by omega))
      have hc1 : V.cell? ⟨w.heap.size + 1, 0, none⟩ = some (.int .u32 0) := hr1.cell 0
      have hf1 := hr1.frozen 0
      have hc2 : V.cell? ⟨w.heap.size + 2, 0, none⟩ = some .nilIface := hr2.cell 0
      have hf2 := hr2.frozen 0
      have hcx : V.cell? ⟨gp, 0, none⟩ = some (.int .u32 (t.pages : Nat)) := by
        rw [World.cell?_of_block (w := wB) (w' := V) (p5.block gp (by omega) (hX3 gp (by omega) hgL))]
        exact hpgB 0 (by omega)
      have HV := Lib.hid (And.intro p1 (And.intro p2 (And.intro p8 (And.intro p5 (And.intro hr1 hr2)))))
      have v0 : decide ((0 : Int) < (nCh val : Int)) = true := decide_eq_true (by omega)
      have v1 : decide (0 < nCh val) = true := decide_eq_true (by omega)
      have v2 : (0 : Int) < (nCh val : Int) := by omega
      have v3 : 0 < nCh val := by omega
      clear p1 p2 p3 p6 p7 p8 p5 hr1 hr2
      gi_wp2
      obtain ⟨p1, p2, p8, p5, hr1, hr2⟩ := HV.out
      obtain ⟨V2, hV2⟩ : ∃ V2, (V.setCell ⟨w.heap.size + 1, 0, none⟩ (.int .u32 (t.pages : Nat))).setCell ⟨w.heap.size + 1 + 1, 0, none⟩ .nilIface = V2 := ⟨_, rfl⟩
      have hfr2 : Fr (fun j => j = w.heap.size + 1 ∨ j = w.heap.size + 2) V V2 := by
        rw [← hV2]
        exact (set_frX (X := fun j => j = w.heap.size + 1 ∨ j = w.heap.size + 2) (.inl rfl)).trans (set_frX (X := fun j => j = w.heap.size + 1 ∨ j = w.heap.size + 2) (.inr rfl))
      have hk1 : Blk V2 (w.heap.size + 1) 22 #[.int .u32 (t.pages : Nat)] := by
        rw [← hV2]
        exact (hr1.set_ 0 (.int .u32 (t.pages : Nat))).far (p := ⟨w.heap.size + 1 + 1, 0, none⟩) (by show w.heap.size + 1 ≠ w.heap.size + 1 + 1; omega) _
      have hk2 : Blk V2 (w.heap.size + 2) 37 #[.nilIface] := by
        rw [← hV2]
        exact (hr2.far (p := ⟨w.heap.size + 1, 0, none⟩) (by show w.heap.size + 2 ≠ w.heap.size + 1; omega) _).set_ 0 .nilIface
      rw [hV2]
      have hKV : V.heap[D]? = some (.deferred (some [])) := (p5.block D (by omega) (hX3 D (by omega) hDW)).trans hKB
      have hK3 : V2.heap[D2]? = some (.deferred (some [])) := (hfr2.block D2 (Array.getElem?_eq_some_iff.1 hK2).1 (by omega)).trans hK2
      have hg1 := grownBy_putObj' V2 D2 (.deferred none)
      have hK4 : (V2.putObj D2 (.deferred none)).heap[D]? = some (.deferred (some [])) := (hg1.block D (by have := hfr2.size; omega) (fun e => by cases e; omega)).trans ((hfr2.block D (by omega) (by omega)).trans hKV)
      have hg2 := grownBy_putObj' (V2.putObj D2 (.deferred none)) D (.deferred none)
      refine ⟨by simp, .inl ⟨_, _, rfl, run_takeDeferred hK3, ?_⟩⟩
      refine ⟨by simp, .inl ⟨_, _, rfl, run_takeDeferred hK4, ?_⟩⟩
      obtain ⟨F, hF⟩ : ∃ F, (V2.putObj D2 (.deferred none)).putObj D (.deferred none) = F := ⟨_, rfl⟩
      have hsF : V.heap.size ≤ F.heap.size := by rw [← hF]; exact Nat.le_trans hfr2.size (Nat.le_trans hg1.size hg2.size)
      have hFV : ∀ j, j < V.heap.size → j ≠ D → j ≠ D2 → j ≠ w.heap.size + 1 → j ≠ w.heap.size + 2 → F.heap[j]? = V.heap[j]? := fun j hj n1 n2 n3 n4 => by
        have := hfr2.size
        have := hg1.size
        rw [← hF, hg2.block j (by omega) (fun e => by cases e; exact n1 rfl), hg1.block j (by omega) (fun e => by cases e; exact n2 rfl), hfr2.block j hj (by omega)]
      have hFk : ∀ j, w.heap.size + 1 ≤ j → j ≤ w.heap.size + 2 → F.heap[j]? = V2.heap[j]? := fun j hj1 hj2 => by
        have := hfr2.size
        have := hg1.size
        rw [← hF, hg2.block j (by omega) (fun e => by cases e; omega), hg1.block j (by omega) (fun e => by cases e; omega)]
      have hcF1 : F.cell? ⟨w.heap.size + 1, 0, none⟩ = some (.int .u32 (t.pages : Nat)) := (World.cell?_of_block (hFk (w.heap.size + 1) (by omega) (by omega))).trans (hk1.cell 0)
      have hcF2 : F.cell? ⟨w.heap.size + 1 + 1, 0, none⟩ = some .nilIface := (World.cell?_of_block (hFk (w.heap.size + 2) (by omega) (by omega))).trans (hk2.cell 0)
      rw [hF]
      refine ⟨.tuple #[.int .u32 (t.pages : Nat), .nilIface], by simp [results, Tryz.results13, go_sem, hcF1, hcF2], rfl, ?_, ?_⟩
      · have hwt : (writeT t val).2.2 = tk := by
          have ea := allocs_new (nCh val) t hB.chain (by omega)
          have e8 : putsT (tA t (nCh val)) (List.range' t.pages (nCh val)) val = (0, tk) := by
            rw [p8]
            rw [show (List.range' t.pages (nCh val)).drop (nCh val) = [] from List.drop_eq_nil_of_le (by rw [List.length_range']; exact Nat.le_refl _)]
            rfl
          unfold writeT
          rw [if_neg (by omega), ea, if_neg (by simp)]
          simp only
          rw [show ({ t with pages := t.pages + nCh val, changed := t.changed || decide (0 < nCh val) } : PT) = tA t (nCh val) from rfl, e8, if_neg (by simp)]
        rw [hwt]
        refine (p1.keep ⟨hsF, fun j hj hl => ?_⟩).mono (fun j hj => (p2 j hj).imp id (fun h9 => by have := hFB.size; omega))
        rcases p2 j hj with h9 | h9
        · have := hX j h9
          exact hFV j hl (by omega) (by omega) (by omega) (by omega)
        · exact hFV j hl (by omega) (fun e9 => by subst e9; exact isC_not h9.2 hK2 rfl) (by omega) (by omega)
      · have o1 : F.os = V.os := by rw [← hF]; exact hg2.os.trans (hg1.os.trans hfr2.os)
        have o2 : F.tape = V.tape := by rw [← hF]; exact hg2.tape.trans (hg1.tape.trans hfr2.tape)
        have o3 : F.output = V.output := by rw [← hF]; exact hg2.output.trans (hg1.output.trans hfr2.output)
        refine ⟨o1.trans (p5.os.trans hFB.os), o2.trans (p5.tape.trans hFB.tape), o3.trans (p5.output.trans hFB.output), by have := hFB.size; omega, fun j hj hx => ?_⟩
        have := hFB.size
        rw [hFV j (by omega) (by omega) (by omega) (by omega) (by omega), p5.block j (by omega) (fun h9 => h9.elim hx (fun h8 => by omega))]
        exact hFB.block j hj hx
    case stop2 =>
      rintro D' c' k V _ _ h9 _
      exact h9.elim
  case stop =>
    rintro D c' k W _ _ h9 _
    exact h9.elim
end Go.Proofs.YtenfkghoolegfaaGreatDoor
set_option linter.unusedVariables false
namespace Go.Proofs.YtenfkghoolegfaaGreatDoor
open Go.RowKit
open Ev (ev AS AObj st1 c3 noCnv VRel LRel Hands hBase cxOK globT Fact)
namespace Lh
noncomputable def one1 (k : Int) : AObj := .cells ⟨Ev.T.leaf.put 0 (.int .i64 k), 1, 80, 1, false, false⟩
def aArgs (k : Int) : List Value := [.iface 80 (.int .i64 k), .iface 150 (.pointer (some ⟨0, 0, none⟩))]
/-- The run answers true, and has written k. -/
noncomputable def asTr (k : Int) (r : Option (Value × AS)) : Bool := match r with
  | some (.bool true, s) => match s.h.get 0 with
    | some (.cells ⟨c, 1, 80, 1, false, false⟩) => match c.get 0 with
      | some (.int .i64 j) => decide (j = k)
      | _ => false
    | _ => false
  | _ => false
set_option maxRecDepth 1000000
theorem as_run : asTr 100 ((ev Km.C1 1000).f 70 (aArgs 100) (st1 (one1 0))) = true := by kernel_rfl
theorem is_run : isTr ((ev Km.C1 1000).f 35 [.iface 134 (.pointer (some ⟨0, 0, none⟩)), .iface 80 (.int .i64 100)] (st1 (Km.flt1 100))) = true := by kernel_rfl
theorem asTr_some {k : Int} {r : Option (Value × AS)} (h : asTr k r = true) : ∃ s c, r = some (.bool true, s) ∧ s.h.get 0 = some (.cells ⟨c, 1, 80, 1, false, false⟩) ∧ c.get 0 = some (.int .i64 k) := by
  unfold asTr at h
  split at h
  · rename_i s
    split at h
    · rename_i c hc
      split at h
      · rename_i j hj
        have := of_decide_eq_true h
        subst this
        exact ⟨s, c, rfl, hc, hj⟩
      · cases h
    · cases h
  · cases h
theorem or_one {ω : Nat → Value} {w : World} {r t : Nat} {a a' : Value} (h : w.heap[r]? = some (.cells #[a'] t (0, 0))) (ha : VRel (Ev.m1 ω ⟨r, 0, 1, 1, false, 1⟩) a a') :
    Ev.ORel (Ev.m1 ω ⟨r, 0, 1, 1, false, 1⟩) w ⟨r, 0, 1, 1, false, 1⟩ (.cells ⟨Ev.T.leaf.put 0 a, 1, t, 1, false, false⟩) := by
  refine ⟨rfl, rfl, rfl, Nat.le_refl _, _, _, h, rfl, fun j hj => ?_, .inl rfl⟩
  have hj' : j < 1 := hj
  match j, hj' with
  | 0, _ => exact ⟨a, a', by simp [Ev.T.get_put], rfl, ha⟩
end Lh
/-- errors.As at an error's number. -/
theorem as_chain {w : World} (hg : GlobAt w) (ht : PowAt w) {r : Nat} (hr : w.heap[r]? = some (.cells #[.int .i64 0] 80 (0, 0))) (h2 : 2 ≤ r) :
    Calls Tryz.prog 70 #[.iface 80 (.int .i64 100), .iface 150 (.pointer (some ⟨r, 0, none⟩))] w fun e w' => e = .returned (.bool true) ∧ w'.cell? ⟨r, 0, none⟩ = some (.int .i64 100) ∧ Fr (fun k => k = r) w w' := by
  obtain ⟨s, c, hs, ho, hc⟩ := Lh.asTr_some Lh.as_run
  refine (Ev.run_one (ω := om1 ByteArray.empty ByteArray.empty) (B := 2) (i := ⟨r, 0, 1, 1, false, 1⟩) c1OK hs (Lh.or_one hr (.plain _ rfl)) (by show 2 ≤ r; omega) (Array.getElem?_eq_some_iff.1 hr).1 (LRel.cons (.iface _ _ _ (.plain _ rfl)) (LRel.cons (.iface _ _ _ (.ptr _ _ ⟨rfl, _, rfl, rfl⟩)) (LRel.nil _))) (bs1 hg ht) rfl).mono ?_
  rintro e w' ⟨v', m', rfl, hv, hf, hoo⟩
  refine ⟨by rw [Ev.plain_inv hv rfl], ?_, hf⟩
  obtain ⟨_, _, _, _, c', fz, h1, h2, h3, _⟩ := hoo _ ho rfl
  obtain ⟨u, u', g1, g2, g3⟩ := h3 0 (by show 0 < 1; omega)
  rw [hc] at g1
  cases g1
  have := Ev.plain_inv g3 rfl
  subst this
  unfold World.cell?
  rw [show w'.heap[r]? = _ from h1]
  simpa using g2
theorem is_chain {w : World} (hg : GlobAt w) (ht : PowAt w) {op nm : ByteArray} {B : Nat} {v : Value} (h : ErrV B w op nm 100 v) (hB : 2 ≤ B) :
    Calls Tryz.prog 35 #[v, .iface 80 (.int .i64 100)] w fun e w' => e = .returned (.bool true) ∧ Fr (fun k => B ≤ k) w w' := by
  rcases h with ⟨h, _⟩ | ⟨_, r, rfl, hr, hb⟩
  · cases h
  obtain ⟨s, hs⟩ := isTr_some Lh.is_run
  refine (Ev.run_one (ω := om1 op nm) (B := 2) (i := ⟨r, 0, 3, 1, false, 3⟩) c1OK hs (Ev.or_three hb (.tok 0 rfl) (.tok 1 rfl) (.iface _ _ _ (.plain _ rfl))) (by show 2 ≤ r; omega) (Array.getElem?_eq_some_iff.1 hb).1 (LRel.cons (.iface _ _ _ (.ptr _ _ ⟨rfl, _, rfl, rfl⟩)) (LRel.cons (.iface _ _ _ (.plain _ rfl)) (LRel.nil _))) (bs1 hg ht) rfl).mono ?_
  rintro e w' ⟨v', m', rfl, hv, hf, ho⟩
  refine ⟨by rw [Ev.plain_inv hv rfl], hf.mono (fun k _ e => by have e : k = r := e; omega)⟩
set_option maxHeartbeats 2000000 in
set_option maxRecDepth 1000000 in
theorem cfault_chain (op : ByteArray) {w : World} (hg : GlobAt w) (ht : PowAt w) : Calls Tryz.prog 45 #[.string op, .iface 80 (.int .i64 100)] w fun e w' => ∃ v, e = .returned v ∧ ErrV w.heap.size w' op ⟨#[]⟩ 100 v ∧ Below w.heap.size w w' := by
  obtain ⟨w1, hw1⟩ : ∃ w1, w1 = w.alloc (.cells #[.int .i64 0] 80) := ⟨_, rfl⟩
  have hb1 : Below w.heap.size w w1 := by rw [hw1]; exact (Below.refl _ w).alloc (Nat.le_refl _) _
  have hB1 : Blk w1 w.heap.size 80 #[.int .i64 0] := by rw [hw1]; exact Blk.new _ _ _
  have h2w : 2 ≤ w.heap.size := by
    unfold PowAt at ht
    rcases Nat.lt_or_ge 1 w.heap.size with h | h
    · exact h
    · rw [Array.getElem?_eq_none h] at ht; cases ht
  have hA := as_chain ((hb1.cell (World.block_lt_of_cell? w _ hg)).trans hg) (powBelow ht hb1) hB1 h2w
  have HW1 := Lib.hid hw1
  clear hw1 hB1
  go_enter Tryz.func45, Tryz.ntmps45
  go_wp2_with (rw [← HW1.out]; go_at_call 70; refine hA.mono ?_; rintro e w2 ⟨rfl, hc2, hf2⟩)
  go_ret
  have hb2 : Below w.heap.size w w2 := hb1.trans (hf2.below (B := w.heap.size) hb1.size (fun k hk => by have hk : k = w.heap.size := hk; omega))
  exact ⟨_, rfl, .inr ⟨by decide, _, rfl, hb2.size, heap_alloc_new _ _⟩, hb2.alloc hb2.size _⟩
end Go.Proofs.YtenfkghoolegfaaGreatDoor
set_option linter.unusedVariables false
namespace Go.Proofs.YtenfkghoolegfaaGreatDoor
open Go.RowKit
open Ev (ev AS AObj st1 c3 noCnv VRel LRel Hands hBase cxOK globT Fact)
attribute [local go_sem] Oper.semAt_some
namespace Mc
noncomputable def isFlt1 (r : Option (Value × AS)) : Bool := match r with
  | some (.iface 134 (.pointer (some ⟨b, 0, none⟩)), s) => match s.h.get b with
    | some (.cells ⟨c, 3, 138, 0, false, false⟩) => match c.get 0, c.get 1, c.get 2 with
      | some (.chan (some 2)), some (.string ⟨⟨[]⟩⟩), some (.iface 80 (.chan (some 3))) => true
      | _, _, _ => false
    | _ => false
  | _ => false
set_option maxRecDepth 1000000 in
theorem code_fault : isFlt1 ((ev C1 1000).f 45 [tok 2, .iface 80 (tok 3)] ⟨0, .leaf⟩) = true := by kernel_rfl
end Mc
open Mc
theorem isFlt1_some {r : Option (Value × AS)} (h : isFlt1 r = true) : ∃ b s c, r = some (.iface 134 (.pointer (some ⟨b, 0, none⟩)), s) ∧ s.h.get b = some (.cells ⟨c, 3, 138, 0, false, false⟩) ∧ c.get 0 = some (tok 2) ∧ c.get 1 = some (.string ⟨#[]⟩) ∧ c.get 2 = some (.iface 80 (tok 3)) := by
  unfold isFlt1 at h
  split at h
  · rename_i b s
    split at h
    · rename_i c hc
      split at h
      · rename_i h0 h1 h2
        exact ⟨b, s, c, rfl, hc, h0, h1, h2⟩
      · cases h
    · cases h
  · cases h
theorem sr_keep {ω : Nat → Value} (w : World) : Ev.SR (ω := ω) 2 ⟨fun _ => none, fun r => if 2 ≤ r then w.heap[r]? else none⟩ (fun _ => none) ⟨0, .leaf⟩ w := by
  refine ⟨fun b o i h1 => (by cases h1), fun b c o p i j h1 => (by cases h1), fun b _ => rfl, fun b _ => rfl, fun b o h1 => (by cases h1), fun r o h1 => ?_, fun b i h1 => (by cases h1)⟩
  have h1 : (if 2 ≤ r then w.heap[r]? else none) = some o := h1
  by_cases h2 : 2 ≤ r
  · rw [if_pos h2] at h1
    exact ⟨h1, h2, fun b i h3 => by cases h3⟩
  · rw [if_neg h2] at h1; cases h1
/-- chain's fault at a number. -/
theorem cfault_code {k : Int} {w : World} (hg : GlobAt w) (ht : PowAt w) (hk0 : k ≠ 0) (hk : 0 ≤ k ∧ k < 4611686018427387904) (op1 : ByteArray) :
    Calls Tryz.prog 45 #[.string op1, .iface 80 (.int .i64 k)] w fun e w' => ∃ v', e = .returned v' ∧ ErrW w.heap.size w' op1 ⟨#[]⟩ k v' ∧ Below w.heap.size w w' := by
  obtain ⟨b, s, c, hs, hb1, e0, e1, e2⟩ := isFlt1_some code_fault
  refine (Ev.run_mem (ω := om3 ⟨#[]⟩ ⟨#[]⟩ op1 k) (B := 2) (c3OK hk) hs (sr_keep w) (LRel.cons (.tok 2 rfl) (LRel.cons (.iface _ _ _ (.tok 3 rfl)) (LRel.nil _))) (bs3 hg ht) rfl).mono ?_
  rintro e w' ⟨v', rfl, m', hle, hs', hv, hbl⟩
  have hF : Below w.heap.size w w' := ⟨hbl.os, hbl.tape, hbl.output, hbl.size, fun j hj => by
    by_cases hB2 : j < 2
    · exact hbl.block j hB2
    · obtain ⟨ob, hob⟩ : ∃ ob, w.heap[j]? = some ob := ⟨_, Array.getElem?_eq_getElem hj⟩
      rw [hob]
      refine (hs'.kp j ob ?_).1
      show (if 2 ≤ j then w.heap[j]? else none) = some ob
      rw [if_pos (by omega), hob]⟩
  refine ⟨v', rfl, .inr ⟨hk0, ?_⟩, hF⟩
  cases hv with
  | plain _ hp => cases hp
  | iface t u u' hu =>
    cases hu with
    | plain _ hp => cases hp
    | ptr a a' ha =>
      obtain ⟨_, i, hi, rfl⟩ := ha
      obtain ⟨⟨_, _, _, htot, c', fz', q1, q2, q3, q4⟩, q5, q6⟩ := hs'.rel b _ i hb1 rfl hi
      have hfr : w.heap.size ≤ i.r := by
        rcases Nat.lt_or_ge i.r w.heap.size with h9 | h9
        · exfalso
          obtain ⟨ob, hob⟩ : ∃ ob, w.heap[i.r]? = some ob := ⟨_, Array.getElem?_eq_getElem h9⟩
          refine (hs'.kp i.r ob ?_).2.2 b i hi rfl
          show (if 2 ≤ i.r then w.heap[i.r]? else none) = some ob
          rw [if_pos q5, hob]
        · exact h9
      refine ⟨i.r, i.d, c', fz', rfl, hfr, q1, by rw [q2]; exact htot, ⟨?_, ?_, ?_⟩, by rw [q2]; exact q4.imp id (·.1)⟩
      · obtain ⟨u, u', g1, g2, g3⟩ := q3 0 (by show 0 < 3; omega)
        rw [e0] at g1
        cases g1
        rw [Nat.add_zero] at g2
        rw [g2, Ev.tok_inv g3]; rfl
      · obtain ⟨u, u', g1, g2, g3⟩ := q3 1 (by show 1 < 3; omega)
        rw [e1] at g1
        cases g1
        rw [g2, Ev.plain_inv g3 rfl]
      · obtain ⟨u, u', g1, g2, g3⟩ := q3 2 (by show 2 < 3; omega)
        rw [e2] at g1
        cases g1
        rw [g2]
        cases g3 with
        | plain _ hp => cases hp
        | iface _ _ z hz9 => rw [Ev.tok_inv hz9]; rfl
def sAlloc : ByteArray := ⟨#[97, 108, 108, 111, 99]⟩
def sWrite : ByteArray := ⟨#[119, 114, 105, 116, 101]⟩
set_option maxHeartbeats 2000000 in
set_option maxRecDepth 1000000 in
theorem Alloc_nil (w : World) : Calls Tryz.prog 17 #[.pointer none] w fun e w' => ∃ v, e = .returned (.tuple #[.int .u32 0, v]) ∧ ErrV w.heap.size w' sAlloc ⟨#[]⟩ 7 v ∧ Below w.heap.size w w' := by
  have hF := fault_any sAlloc ⟨#[]⟩ 7 w
  go_enter Tryz.func17, Tryz.ntmps17
  go_wp2_with (go_at_call 51; refine hF.mono ?_; rintro e w2 ⟨v, rfl, hv, hb⟩)
  go_ret2
  exact ⟨v, rfl, hv, hb⟩
end Go.Proofs.YtenfkghoolegfaaGreatDoor
set_option linter.unusedVariables false
namespace Go.Proofs.YtenfkghoolegfaaGreatDoor
open Go.RowKit
attribute [local go_sem] Oper.semAt_some
theorem ErrW.form {B : Nat} {w : World} {op nm : ByteArray} {k : Int} {v : Value} (h : ErrW B w op nm k v) (hk : k ≠ 0) : ∃ p, v = .iface 134 (.pointer (some p)) := by
  rcases h with ⟨h, _⟩ | ⟨_, r, d, c, fz, e, _⟩
  · exact absurd h hk
  · exact ⟨_, e⟩
/-- Both results written. -/
theorem res2 {W : World} {s : Nat} {t1 t2 : TypeId} {a b : Value} (x v : Value) (k1 : Blk W (s + 1) t1 #[a]) (k2 : Blk W (s + 2) t2 #[b]) :
    Blk ((W.setCell ⟨s + 1, 0, none⟩ x).setCell ⟨s + 1 + 1, 0, none⟩ v) (s + 1) t1 #[x] ∧ Blk ((W.setCell ⟨s + 1, 0, none⟩ x).setCell ⟨s + 1 + 1, 0, none⟩ v) (s + 2) t2 #[v] ∧ Fr (fun j => j = s + 1 ∨ j = s + 2) W ((W.setCell ⟨s + 1, 0, none⟩ x).setCell ⟨s + 1 + 1, 0, none⟩ v) :=
  ⟨(k1.set_ 0 x).far (p := ⟨s + 1 + 1, 0, none⟩) (by show s + 1 ≠ s + 1 + 1; omega) _, (k2.far (p := ⟨s + 1, 0, none⟩) (by show s + 2 ≠ s + 1; omega) x).set_ 0 v, (set_frX (X := fun j => j = s + 1 ∨ j = s + 2) (.inl rfl)).trans (set_frX (X := fun j => j = s + 1 ∨ j = s + 2) (.inr rfl))⟩
set_option maxHeartbeats 2000000 in
set_option maxRecDepth 1000000 in
theorem Write_no {w : World} (n c : Nat) (A : Option Addr) (hn : ¬ (1 ≤ n ∧ n ≤ 1000)) (hn2 : n ≤ 9223372036854775807) (hg : GlobAt w) (ht : PowAt w) (x : Option Addr) :
    Calls Tryz.prog 13 #[.pointer x, .slice A n c] w fun e w' => ∃ v, e = .returned (.tuple #[.int .u32 0, v]) ∧ ErrW w.heap.size w' sWrite ⟨#[]⟩ 2 v ∧ Below w.heap.size w w' := by
  have hS := fun W => isSize_any (n : Int) W
  rw [show (decide (1 ≤ (n : Int)) && decide ((n : Int) ≤ 1000)) = false by rw [Bool.and_eq_false_iff, decide_eq_false_iff_not, decide_eq_false_iff_not]; omega] at hS
  have hF := fun W (hW : Below w.heap.size w W) => cfault_code (k := 2) (globBelow hg hW) (powBelow ht hW) (by decide) (by decide) sWrite
  obtain ⟨w3, hw3⟩ : ∃ w3, ((w.alloc (.cells #[.pointer x] 32)).alloc (.cells #[.int .u32 0] 22)).alloc (.cells #[.nilIface] 37) = w3 := ⟨_, rfl⟩
  have hb3 : Below w.heap.size w w3 := by rw [← hw3]; exact ((((Below.refl w.heap.size w).alloc (by simp) _).alloc (by simp) _).alloc (by simp; omega) _)
  have hB1 : Blk w3 (w.heap.size + 1) 22 #[.int .u32 0] := by rw [← hw3]; exact (blk_at (by simp)).alloc _
  have hB2 : Blk w3 (w.heap.size + 2) 37 #[.nilIface] := by rw [← hw3]; exact blk_at (by simp)
  have HW := Lib.hid hw3
  clear hw3
  go_enter Tryz.func13, Tryz.ntmps13
  go_wp2_with (first
    | (go_at_call 44; refine (hS _).mono ?_; rintro e w2 ⟨rfl, hww⟩; have hww := hww.symm; subst hww; rw [HW.out])
    | (go_at_call 45; refine (hF _ hb3).mono ?_; rintro e w4 ⟨v, rfl, hv, hb4⟩; obtain ⟨pv, rfl⟩ := hv.form (by decide); have k1 := hB1.below hb4 hB1.lt; have k2 := hB2.below hb4 hB2.lt; have c1 := k1.cell 0; have c2 := k2.cell 0; have f1 := k1.frozen 0; have f2 := k2.frozen 0))
  obtain ⟨r1, r2, r3⟩ := res2 (.int .u32 0) (.iface 134 (.pointer (some pv))) k1 k2
  obtain ⟨w5, hw5⟩ : ∃ w5, ((w4.setCell ⟨w.heap.size + 1, 0, none⟩ (.int .u32 0)).setCell ⟨w.heap.size + 1 + 1, 0, none⟩ (.iface 134 (.pointer (some pv)))) = w5 := ⟨_, rfl⟩
  rw [hw5] at r1 r2 r3 ⊢
  have e1 : w5.cell? ⟨w.heap.size + 1, 0, none⟩ = some (.int .u32 0) := r1.cell 0
  have e2 : w5.cell? ⟨w.heap.size + 2, 0, none⟩ = some (.iface 134 (.pointer (some pv))) := r2.cell 0
  have hs3 := hB2.lt
  refine bodyPost_ret (v := .tuple #[.int .u32 0, .iface 134 (.pointer (some pv))]) (by simp [results, Tryz.results13, go_sem, e1, e2]) rfl ?_
  exact ⟨_, rfl, (hv.keep fun r hr hl => r3.block r hl (by omega)).lo hb3.size, (hb3.trans (hb4.mono hb3.size)).trans (r3.below (B := w.heap.size) (by have := hb4.size; omega) (fun j hj => by omega))⟩
set_option maxHeartbeats 4000000 in
set_option maxRecDepth 1000000 in
theorem Write_nil {w : World} (n c : Nat) (a : Addr) (hn : 1 ≤ n ∧ n ≤ 1000) (hc : n ≤ c) (hg : GlobAt w) (ht : PowAt w) :
    Calls Tryz.prog 13 #[.pointer none, .slice (some a) n c] w fun e w' => ∃ v, e = .returned (.tuple #[.int .u32 0, v]) ∧ ErrW w.heap.size w' sWrite ⟨#[]⟩ 7 v ∧ Below w.heap.size w w' := by
  have hS := fun W => isSize_any (n : Int) W
  rw [show (decide (1 ≤ (n : Int)) && decide ((n : Int) ≤ 1000)) = true by simp; omega] at hS
  refine (callsIn_wide (n := 3)).1 ?_
  refine callsIn_of_wp_marks Tryz.func13 rfl trivial ?_ rfl
  simp only [Tryz.ntmps13, List.size_toArray, List.length_cons, List.length_nil, Nat.reduceAdd, Nat.reduceSub, Array.replicate_succ, Array.replicate_zero, List.push_toArray, List.append_toArray, List.nil_append, List.cons_append]
  gi_wp2_with (first
    | (refine ⟨trivial, ?_⟩; gi_at_call 44; refine (callsIn_wide.2 (hS _)).mono ?_; rintro e w2 ⟨rfl, hww⟩; have hww := hww.symm; subst hww)
    | (refine ⟨trivial, ?_⟩; gi_at_call 46; refine (callsIn_wide.2 (chunk_go _ _ _ _)).mono ?_; rintro e w2 ⟨rfl, hww⟩; have hww := hww.symm; subst hww))
  obtain ⟨wA, hwA⟩ : ∃ wA, ((((((w.alloc (.cells #[.pointer none] 32)).alloc (.cells #[.int .u32 0] 22)).alloc (.cells #[.nilIface] 37)).alloc (.cells #[.slice none 0 0] 35)).alloc (.cells #[.slice (some a) n c] 23)).alloc (.cells #[.int .i64 238] 3)) = wA := ⟨_, rfl⟩
  have hsA : wA.heap.size = w.heap.size + 6 := by rw [← hwA]; simp
  have hbA : Below w.heap.size w wA := by
    rw [← hwA]
    exact ((((((Below.refl w.heap.size w).alloc (by simp) _).alloc (by simp) _).alloc (by simp; omega) _).alloc (by simp; omega) _).alloc (by simp; omega) _).alloc (by simp; omega) _
  have hA0 : Blk wA w.heap.size 32 #[.pointer none] := by rw [← hwA]; exact (((((blk_at (by simp)).alloc _).alloc _).alloc _).alloc _).alloc _
  have hA1 : Blk wA (w.heap.size + 1) 22 #[.int .u32 0] := by rw [← hwA]; exact ((((blk_at (by simp)).alloc _).alloc _).alloc _).alloc _
  have hA2 : Blk wA (w.heap.size + 2) 37 #[.nilIface] := by rw [← hwA]; exact (((blk_at (by simp)).alloc _).alloc _).alloc _
  have hA4 : Blk wA (w.heap.size + 4) 23 #[.slice (some a) n c] := by rw [← hwA]; exact (blk_at (by simp)).alloc _
  have hA5 : Blk wA (w.heap.size + 5) 3 #[.int .i64 238] := by rw [← hwA]; exact blk_at (by simp)
  rw [hwA]
  clear hwA
  have hst := chunk_seq 2 (by omega) (w.heap.size + 4) (w.heap.size + 5) n c a hn.2 hc wA (by omega) (by omega) (hA4.cell 0) (hA5.cell 0)
  have hN1 : 1 ≤ (List.range (nChN n)).length := by rw [List.length_range]; unfold nChN; omega
  refine' wpIn_rangeFunc_ownN rfl (by omega) (gf := 81) (lb := #[.pointer (some ⟨w.heap.size + 4, 0, none⟩), .pointer (some ⟨w.heap.size + 5, 0, none⟩)]) rfl trivial (enters_of Tryz.func81 (by kernel_rfl) rfl) hst keepC_t ?hkb (Below.refl _ _) (fun _ => rfl)
    (fun k W => k = 0 ∧ Below wA.heap.size wA W)
    (fun c' _ W => c' = .ret ∧ ∃ p, Blk W (w.heap.size + 1) 22 #[.int .u32 0] ∧ Blk W (w.heap.size + 2) 37 #[.iface 134 (.pointer (some p))] ∧ ErrW wA.heap.size W sWrite ⟨#[]⟩ 7 (.iface 134 (.pointer (some p))) ∧ Fr (fun j => j = w.heap.size + 1 ∨ j = w.heap.size + 2) wA W) ?hi ?hix ?h0 _ ?assign ?body ?done ?stop
  case hkb =>
    intro W l o o' hl ho hc9 hw9
    have hgb := grownBy_putObj' W l o'
    have hlt := (Array.getElem?_eq_some_iff.1 ho).1
    exact ⟨World.cell?_of_block (hgb.block (w.heap.size + 4) (by omega) (fun e => by cases e; omega)), World.cell?_of_block (hgb.block (w.heap.size + 5) (by omega) (fun e => by cases e; omega))⟩
  case hi =>
    rintro k W W' row ⟨q0, q4⟩ hg9 hr9
    refine ⟨q0, hg9.os.trans q4.os, hg9.tape.trans q4.tape, hg9.output.trans q4.output, Nat.le_trans q4.size hg9.size, fun j hj => (hg9.block j (Nat.lt_of_lt_of_le hj q4.size) (fun e => by obtain ⟨h8, _⟩ := hr9 j e.symm; omega)).trans (q4.block j hj)⟩
  case hix =>
    rintro c' k W W' row ⟨rfl, p, q1, q2, q3, q4⟩ hg9 hr9
    have hlo : ∀ j (o : Obj), W.heap[j]? = some o → o.isCells = true → W'.heap[j]? = W.heap[j]? := fun j o ho hco => hg9.block j (Array.getElem?_eq_some_iff.1 ho).1 (fun e => by
      obtain ⟨_, o', ho', hco'⟩ := hr9 j e.symm
      rw [ho] at ho'; cases ho'; rw [hco] at hco'; cases hco')
    refine ⟨rfl, p, (hlo _ _ q1 rfl).trans q1, (hlo _ _ q2 rfl).trans q2, q3.imp id fun ⟨h1, r, d, cs, fz, e, hB, hr, hz⟩ => ⟨h1, r, d, cs, fz, e, hB, (hlo _ _ hr rfl).trans hr, hz⟩, ?_⟩
    exact ⟨hg9.os.trans q4.os, hg9.tape.trans q4.tape, hg9.output.trans q4.output, Nat.le_trans q4.size hg9.size, fun j hj hx => (hg9.block j (Nat.lt_of_lt_of_le hj q4.size) (fun e => by obtain ⟨h8, _⟩ := hr9 j e.symm; omega)).trans (q4.block j hj hx)⟩
  case h0 => exact ⟨rfl, Below.refl _ _⟩
  case assign =>
    intro l x W K hK
    gi_wp2
    exact hK
  case body =>
    rintro l k x W hx ⟨rfl, hb⟩
    have hct : W.cell? ⟨w.heap.size, 0, none⟩ = some (.pointer none) := (hA0.below hb hA0.lt).cell 0
    have k1 := hA1.below hb hA1.lt
    have k2 := hA2.below hb hA2.lt
    have hsW := hb.size
    have hAl := Alloc_nil W
    have hgW : GlobAt W := globBelow hg (hbA.trans (hb.mono hbA.size))
    have htW : PowAt W := powBelow ht (hbA.trans (hb.mono hbA.size))
    have h2W := pow_lt htW
    gi_wp2_with (first
      | (refine ⟨trivial, ?_⟩; gi_at_call 17; refine (callsIn_wide.2 hAl).mono ?_; rintro e W1 ⟨v, rfl, hv, hb1⟩; obtain ⟨pv, rfl⟩ := hv.w.form (by decide); have hF := cfault_any (globBelow hgW hb1) (powBelow htW hb1) hv.w (by omega) (by decide) sWrite)
      | (refine ⟨trivial, ?_⟩; gi_at_call 45; refine (callsIn_wide.2 hF).mono ?_; rintro e W2 ⟨v2, rfl, hv2, hf2⟩; obtain ⟨pv2, rfl⟩ := hv2.form (by decide); have j1 := (k1.below hb1 k1.lt).fr hf2 (by omega); have j2 := (k2.below hb1 k2.lt).fr hf2 (by omega); have c1 := j1.cell 0; have c2 := j2.cell 0; have f1 := j1.frozen 0; have f2 := j2.frozen 0))
    obtain ⟨r1, r2, r3⟩ := res2 (.int .u32 0) (.iface 134 (.pointer (some pv2))) j1 j2
    obtain ⟨W3, hW3⟩ : ∃ W3, ((W2.setCell ⟨w.heap.size + 1, 0, none⟩ (.int .u32 0)).setCell ⟨w.heap.size + 1 + 1, 0, none⟩ (.iface 134 (.pointer (some pv2)))) = W3 := ⟨_, rfl⟩
    rw [hW3] at r1 r2 r3 ⊢
    have hs1 := hb1.size
    have hs2 := hf2.size
    have hs3 := r3.size
    refine ⟨⟨by omega, fun j o hj ho hco => ?_⟩, rfl, pv2, r1, r2, (hv2.keep fun r hr hl => r3.block r hl (by omega)).lo (by omega), ?_⟩
    · have hjl := (Array.getElem?_eq_some_iff.1 ho).1
      rw [r3.block j (by omega) (by omega), hf2.block j (by omega) (by omega), hb1.block j hjl]
      exact ho
    · refine ⟨r3.os.trans (hf2.os.trans (hb1.os.trans hb.os)), r3.tape.trans (hf2.tape.trans (hb1.tape.trans hb.tape)), r3.output.trans (hf2.output.trans (hb1.output.trans hb.output)), by omega, fun j hj hx9 => ?_⟩
      rw [r3.block j (by omega) hx9, hf2.block j (by omega) (by omega), hb1.block j (by omega)]
      exact hb.block j hj
  case done =>
    rintro D W hD ⟨h9, _⟩ _
    omega
  case stop =>
    rintro D c' k W hD _ ⟨rfl, p, q1, q2, q3, q4⟩ hK
    have e1 : W.cell? ⟨w.heap.size + 1, 0, none⟩ = some (.int .u32 0) := q1.cell 0
    have e2 : W.cell? ⟨w.heap.size + 2, 0, none⟩ = some (.iface 134 (.pointer (some p))) := q2.cell 0
    gi_wp2
    refine ⟨by simp, .inl ⟨_, _, rfl, run_takeDeferred hK, ?_⟩⟩
    have hgb := grownBy_putObj' W D (.deferred none)
    have hs4 := q4.size
    have hl1 := q1.lt
    have hl2 := q2.lt
    have g1 : (W.putObj D (.deferred none)).cell? ⟨w.heap.size + 1, 0, none⟩ = some (.int .u32 0) := (World.cell?_of_block (hgb.block (w.heap.size + 1) hl1 (fun e => by cases e; omega))).trans e1
    have g2 : (W.putObj D (.deferred none)).cell? ⟨w.heap.size + 2, 0, none⟩ = some (.iface 134 (.pointer (some p))) := (World.cell?_of_block (hgb.block (w.heap.size + 2) hl2 (fun e => by cases e; omega))).trans e2
    refine ⟨.tuple #[.int .u32 0, .iface 134 (.pointer (some p))], by simp [results, Tryz.results13, go_sem, g1, g2], _, rfl, ?_, ?_⟩
    · refine ErrW.lo (q3.imp id fun ⟨h1, r, d, cs, fz, e, hB, hr, hz⟩ => ⟨h1, r, d, cs, fz, e, hB, (hgb.block r (Array.getElem?_eq_some_iff.1 hr).1 (fun e9 => by cases e9; rw [hK] at hr; cases hr)).trans hr, hz⟩) hbA.size
    · refine ⟨hgb.os.trans (q4.os.trans hbA.os), hgb.tape.trans (q4.tape.trans hbA.tape), hgb.output.trans (q4.output.trans hbA.output), Nat.le_trans hbA.size (Nat.le_trans hs4 hgb.size), fun j hj => ?_⟩
      rw [hgb.block j (by omega) (fun e => by cases e; omega), q4.block j (by omega) (by omega), hbA.block j hj]
end Go.Proofs.YtenfkghoolegfaaGreatDoor
set_option linter.unusedVariables false
namespace Go.Proofs.YtenfkghoolegfaaGreatDoor
open Go.RowKit
/-- Along one page more. -/
theorem walkT_step {t : PT} (ok : t.OK) {p : Nat} {ps : List Nat} {v : List UInt8} (h : LaidC t.lsn t.over (p :: ps) v) (hp : p < t.pages) (g left : Nat) (hl : left ≠ 0) :
    walkT t (g + 1) p left = if (v.take 238).length ≠ min 238 left ∨ ¬ (ps.headD 0 = 0 ↔ left - min 238 left = 0) then .error 100 else match walkT t g (ps.headD 0) (left - min 238 left) with
      | .error e => .error e
      | .ok r => .ok (p :: r.1, v.take 238 ++ r.2) := by
  obtain ⟨h1, h2, h3, hlk, h5⟩ := h
  have hvl := List.length_pos_iff.2 h1
  have hdl : 1 ≤ (v.take 238).length ∧ (v.take 238).length ≤ 238 := by rw [List.length_take]; omega
  have hnx : ps.headD 0 < 4294967296 := by
    cases ps with
    | nil => decide
    | cons q r => have := (LaidC.two h5 q (by simp)).2; show q < _; omega
  have hg := (get_putND (overPg_put (lsn := t.lsn) (next := ps.headD 0) (d := v.take 238) hdl) (overPg_fit ok.lsn hnx)).1
  have hnT : nodeT t p = .ok (overPg t.lsn (ps.headD 0) (v.take 238)) := by
    unfold nodeT pageT
    rw [if_neg (by omega), hlk]
    exact hg
  show (if left = 0 then _ else _) = _
  rw [if_neg hl, hnT]
  simp only
  by_cases hc : (v.take 238).length ≠ min 238 left ∨ ¬ (ps.headD 0 = 0 ↔ left - min 238 left = 0)
  · rw [if_pos hc, if_pos (.inr hc)]
  · rw [if_neg hc, if_neg (by rintro (h1 | h1); exact h1 rfl; exact hc h1)]
    rfl
set_option maxHeartbeats 4000000 in
set_option maxRecDepth 1000000 in
theorem Read_err {X : Nat → Prop} {w : World} {T M : Nat} {t : PT} (h : TX X w T M t) (hX : ∀ k, X k → k < w.heap.size) (ok : t.OK) (hg : GlobAt w) (htab : PowAt w) (h1w : 1 < w.heap.size) {ps : List Nat} {v : List UInt8} (hc : ChainAt t ps v) (p0 : Nat) (hp0 : ps.headD 0 = p0) (s : Nat) (hs : 1 ≤ s ∧ s ≤ 1000)
    (hw : walkT t 5 p0 s = .error 100) :
    Calls Tryz.prog 14 #[.pointer (some ⟨T, 0, none⟩), .int .u32 (p0 : Nat), .int .i64 s] w fun e w' => ∃ v, e = .returned (.tuple #[.slice none 0 0, v]) ∧ ErrV w.heap.size w' ⟨#[114, 101, 97, 100]⟩ ⟨#[]⟩ 100 v ∧ Below w.heap.size w w' := by
  obtain ⟨w1, hw1⟩ : ∃ w1, w1 = w.alloc (.cells #[.slice none 0 0] 23) := ⟨_, rfl⟩
  have hb1 : Below w.heap.size w w1 := by rw [hw1]; exact (Below.refl _ w).alloc (Nat.le_refl _) _
  have hB1 : Blk w1 w.heap.size 23 #[.slice none 0 0] := by rw [hw1]; exact Blk.new _ _ _
  have hv0 : BoxRow w.heap.size w.heap.size 23 5 fBytes [] w1 ∧ (fBytes []).length ≤ 238 * ([] : List (Nat × List UInt8)).length := ⟨⟨Nat.le_refl _, none, 0, hB1, ⟨rfl, .inl ⟨rfl, rfl⟩⟩⟩, Nat.le_refl _⟩
  have hW := walk_laidM (B0 := w.heap.size) (h.keep (KeepX.of_below hb1)) ok (powBelow htab hb1) (read_visit w.heap.size w.heap.size) hv0 hb1.size hX h1w ps v hc.laid hc.ne hc.lt hc.len p0 hp0 s hs
  rw [hw] at hW
  have hF := fun W (hW : Below w.heap.size w W) => cfault_chain ⟨#[114, 101, 97, 100]⟩ ((hW.cell (World.block_lt_of_cell? w _ hg)).trans hg) (powBelow htab hW)
  have HW := Lib.hid hW
  have HW1 := Lib.hid hw1
  clear hW hw1 h hX hc hv0 hB1 hw
  go_enter Tryz.func14, Tryz.ntmps14
  go_wp2_with (first
    | (rw [← HW1.out]; go_at_call 47; refine HW.out.mono ?_; rintro e w2 ⟨⟨rfl, vis, _⟩, hb2⟩; have hb12 := hb1.trans hb2; have hFF := hF w2 hb12)
    | (go_at_call 45; refine hFF.mono ?_; rintro e w3 ⟨u, rfl, hu, hb3⟩))
  go_ret2
  exact ⟨u, rfl, hu.lo hb12.size, hb12.trans (hb3.mono hb12.size)⟩
set_option maxHeartbeats 4000000 in
set_option maxRecDepth 1000000 in
theorem same_any {B1 B2 : Nat} {A1 A2 : Option Addr} (c1 c2 : Nat) (a b : List Nat) (w : World) (h1 : Reads w B1 1 A1 a.length (ul a)) (h2 : Reads w B2 1 A2 b.length (ul b)) (ha : a.length ≤ 1000000) :
    Calls Tryz.prog 34 #[.slice A1 a.length c1, .slice A2 b.length c2] w fun e w' => e = .returned (.bool (decide (a = b))) ∧ ∃ q, w' = w.drewN q := by
  by_cases hl : a.length = b.length
  · have z1 : ((a.length : Int) != (b.length : Int)) = false := by rw [hl]; simp
    have HL := Lib.hid hl
    clear hl
    go_enter Tryz.func34, Tryz.ntmps34
    go_wp2
    go_loopw [5] (fun i wr => ∃ k : Nat, k ≤ a.length ∧ i = .int .i64 k ∧ a.take k = b.take k ∧ ∃ q, wr = w.drewN q) (fun i _ => a.length - (intOf i).toNat)
    case atStart => exact ⟨0, Nat.zero_le _, rfl, rfl, 0, rfl⟩
    case round =>
      obtain ⟨k, hk, rfl, ht, q, hw⟩ := hrel
      have HW := Lib.hid hw
      by_cases hlt : k < a.length
      · have d1 : decide (k < a.length) = true := decide_eq_true hlt
        obtain ⟨x, hx⟩ : ∃ x, a[k]? = some x := ⟨_, List.getElem?_eq_getElem hlt⟩
        obtain ⟨y, hy⟩ : ∃ y, b[k]? = some y := ⟨_, List.getElem?_eq_getElem (by rw [← HL.out]; exact hlt)⟩
        obtain ⟨ad1, rfl, _, hc1⟩ := h1.2 (by omega)
        obtain ⟨ad2, rfl, _, hc2⟩ := h2.2 (by rw [← HL.out]; omega)
        have k1 : wr.cell? (ad1.add k) = some (.int .u32 (x : Nat)) := by rw [HW.out]; exact hc1 k _ (by unfold ul; rw [List.getElem?_map, hx]; rfl)
        have k2 : wr.cell? (ad2.add k) = some (.int .u32 (y : Nat)) := by rw [HW.out]; exact hc2 k _ (by unfold ul; rw [List.getElem?_map, hy]; rfl)
        have q1 : (k : Int) < (a.length : Int) := by omega
        have q2 : (k : Int) < (b.length : Int) := by rw [← HL.out]; omega
        have q3 : k < b.length := by rw [← HL.out]; omega
        have q0 : (0 : Int) ≤ (k : Int) := by omega
        have HX := Lib.hid (And.intro hx hy)
        clear hx hy hc1 hc2 hw
        by_cases hxy : x = y
        · have z2 : ((x : Int) != (y : Int)) = false := by rw [hxy]; simp
          have HXY := Lib.hid hxy
          clear hxy
          go_wp2
          go_quiet (fail)
          go_wp2
          go_roundw
          case rel => exact ⟨k + 1, by omega, by go_num, by rw [List.take_add_one, List.take_add_one, ht, HX.out.1, HX.out.2, HXY.out], q + nq, by rw [HW.out, World.drewN_drewN]⟩
          case measure => simp [intOf]; omega
        · have z2 : ((x : Int) != (y : Int)) = true := bne_iff_ne.2 (by omega)
          have HXY := Lib.hid hxy
          clear hxy
          go_wp2
          go_quiet (fail)
          go_wp2
          go_ret
          refine ⟨retB ?_, q + nq, by rw [HW.out, World.drewN_drewN]⟩
          symm
          refine decide_eq_false (fun e => HXY.out ?_)
          have := HX.out.1
          rw [e, HX.out.2] at this
          exact (Option.some.inj this).symm
      · have d1 : decide (k < a.length) = false := decide_eq_false hlt
        go_wp2
        go_ret
        refine ⟨retB ?_, q, by first | exact HW.out | rfl⟩
        symm
        refine decide_eq_true ?_
        rw [List.take_of_length_le (by omega), List.take_of_length_le (by rw [← HL.out]; omega)] at ht
        exact ht
  · have z1 : ((a.length : Int) != (b.length : Int)) = true := bne_iff_ne.2 (by omega)
    have HL := Lib.hid hl
    clear hl
    go_enter Tryz.func34, Tryz.ntmps34
    go_wp2
    go_ret
    exact ⟨retB (by symm; exact decide_eq_false (fun e => HL.out (by rw [e]))), 0, rfl⟩
end Go.Proofs.YtenfkghoolegfaaGreatDoor
set_option linter.unusedVariables false
namespace Go.Proofs.YtenfkghoolegfaaGreatDoor
open Go.RowKit
def vL : List UInt8 := (zB 300).set 299 7
theorem vL_len : vL.length = 300 := by unfold vL; rw [List.length_set]; exact zB_len 300
theorem reads_blkB {w : World} {g : Nat} {l : List UInt8} (h : Blk w g 5 (bl l).toArray) : Reads w w.heap.size 1 (some ⟨g, 0, none⟩) l.length (bl l) :=
  ⟨by rw [bl_len, Nat.mul_one], fun _ => ⟨_, rfl, h.lt, fun j u hu => by
    rw [show (⟨g, 0, none⟩ : Addr).add j = ⟨g, j, none⟩ by unfold Addr.add; split <;> simp_all]
    rw [h.cell j]
    simpa using hu⟩⟩
theorem reads_two {w : World} {g x y : Nat} (h : Blk w g 22 #[.int .u32 (x : Nat), .int .u32 (y : Nat)]) : Reads w w.heap.size 1 (some ⟨g, 0, none⟩) 2 (ul [x, y]) := by
  refine ⟨rfl, fun _ => ⟨_, rfl, h.lt, fun j u hu => ?_⟩⟩
  rw [show (⟨g, 0, none⟩ : Addr).add j = ⟨g, j, none⟩ by unfold Addr.add; split <;> simp_all]
  rw [h.cell j]
  unfold ul at hu
  match j, hu with
  | 0, hu => exact hu
  | 1, hu => exact hu
  | j + 2, hu => cases hu
theorem lv_write : ∃ t', writeT (freshT 1) vL = (0, 2, t') ∧ t'.OK ∧ ChainAt t' [2, 3] vL ∧ walkT t' 5 2 300 = .ok ([2, 3], vL) ∧ walkT t' 5 2 299 = .error 100 := by
  obtain ⟨t', h1, h2, h3, h4⟩ := back_write (t := freshT 1) back_fresh (v := vL) (by rw [vL_len]; omega) (by rw [vL_len]; omega) (by decide)
  have hn : nCh vL = 2 := by unfold nCh; rw [vL_len]
  have hr : List.range' (freshT 1).pages (nCh vL) = [2, 3] := by rw [hn]; rfl
  rw [hr] at h2
  have hm : ([2, 3], vL) ∈ ([] ++ [([2, 3], vL)] : List (List Nat × List UInt8)) := by simp
  have hl := (h2.laid _ hm).1
  have hb : ∀ p ∈ [2, 3], p < t'.pages := fun p hp => (h2.bound p (by rw [List.mem_append, List.mem_flatMap]; exact .inl ⟨_, hm, hp⟩)).2
  have hrd := back_read h2 hm
  unfold readT at hrd
  rw [vL_len, if_neg (by omega)] at hrd
  refine ⟨t', h1, h2.ok, ⟨hl, by simp, hb, by decide⟩, hrd, ?_⟩
  have hl2 : LaidC t'.lsn t'.over [3] (vL.drop 238) := hl.2.2.2.2
  rw [walkT_step h2.ok hl (hb 2 (by simp)) 4 299 (by omega)]
  have e1 : (vL.take 238).length = 238 := by rw [List.length_take, vL_len]; rfl
  rw [if_neg (by rw [e1]; rintro (h9 | h9); exact h9 rfl; exact h9 (by decide))]
  rw [show ([3] : List Nat).headD 0 = 3 from rfl, show 299 - min 238 299 = 61 by decide, walkT_step h2.ok hl2 (hb 3 (by simp)) 3 61 (by omega)]
  have e2 : ((vL.drop 238).take 238).length = 62 := by rw [List.length_take, List.length_drop, vL_len]; rfl
  rw [if_pos (.inl (by rw [e2]; decide))]
set_option maxHeartbeats 4000000 in
set_option maxRecDepth 1000000 in
theorem clive_any (w : World) (hg : GlobAt w) (ht : PowAt w) : Calls Tryz.prog 10 #[] w fun e w' => e = .returned (.bool true) ∧ Below w.heap.size w w' := by
  obtain ⟨t', g1, g2, g3, g4, g5⟩ := lv_write
  have h2w : 2 ≤ w.heap.size := by
    have := ht
    unfold PowAt at this
    rcases Nat.lt_or_ge 1 w.heap.size with h | h
    · exact h
    · rw [Array.getElem?_eq_none h] at this; cases this
  have hF := Fresh_any 1 (by decide) w
  have hm : ∀ W : World, (Instr.makeSlice 23 (.int .i64 300) (.int .i64 300)).run Tryz.prog W = .ok (.slice (some ⟨W.heap.size, 0, none⟩) 300 300) (W.alloc (.cells (bl (zB 300)).toArray 5)) := fun W => make_zB 300 (by omega) W
  have hz : ∀ W : World, (W.alloc (.cells (bl (zB 300)).toArray 5)).frozen? ⟨W.heap.size, 299, none⟩ = false := fun W => (Blk.new W _ _).frozen 299
  have hz2 : ∀ W : World, (W.alloc (.cells (bl (zB 300)).toArray 5)).cell? ⟨W.heap.size, 299, none⟩ = some (.int .u8 0) := fun W => ((Blk.new W 5 (bl (zB 300)).toArray).cell 299).trans (by rw [List.getElem?_toArray]; unfold bl; rw [List.getElem?_map]; unfold zB; rw [List.getElem?_replicate]; rfl)
  have hset : (bl (zB 300)).set 299 (.int .u8 7) = bl vL := by unfold vL bl; rw [List.map_set]; rfl
  obtain ⟨l0, HL0⟩ : ∃ l0, Hid (([2, 3] : List Nat) = l0) := ⟨_, Lib.hid rfl⟩
  obtain ⟨v0, HV0⟩ : ∃ v0, Hid (vL = v0) := ⟨_, Lib.hid rfl⟩
  rw [HL0.out] at g3 g4
  rw [HV0.out] at g1 g3 g4 hset
  have hv0 : v0.length = 300 := by rw [← HV0.out]; exact vL_len
  have hp0 : l0.headD 0 = 2 := by rw [← HL0.out]; rfl
  have HG := Lib.hid (And.intro g1 (And.intro g2 (And.intro g3 (And.intro g4 (And.intro g5 (And.intro hset (And.intro hv0 hp0)))))))
  clear g1 g2 g3 g4 g5 hset hp0
  go_enter Tryz.func10, Tryz.ntmps10
  go_wp2_with (first
    | (go_at_call 12; refine hF.mono ?_; rintro e w1 ⟨T, M, rfl, h1, hb1⟩; have h1 := h1.cut; have hb1s := hb1.size)
    | (go_at_call 13; rw [HG.out.2.2.2.2.2.1]; obtain ⟨w3, hw3⟩ : ∃ w3, w1.alloc (.cells (bl v0).toArray 5) = w3 := ⟨_, rfl⟩; have hb3 : Below w1.heap.size w1 w3 := (by rw [← hw3]; exact (Below.refl _ w1).alloc (Nat.le_refl _) _); have hB3 : Blk w3 w1.heap.size 5 (bl v0).toArray := (by rw [← hw3]; exact Blk.new _ _ _); rw [hw3]; have hr3 := reads_blkB hB3; have h3s := hB3.lt; have h13 := hb1.trans (hb3.mono hb1s);
       have hW := Write_ok (h1.keep (KeepX.of_below hb3)) (fun k hk => Nat.lt_of_lt_of_le hk.2 hb3.size) (fun h9 => by have := h9.1; omega) (powBelow ht h13) back_fresh v0 ⟨w1.heap.size, 0, none⟩ 300 hr3 (fun h9 => by have := h9.2; exact absurd this (Nat.lt_irrefl _)) (by omega) (by omega) (by omega) (by decide);
       rw [HG.out.1, hv0, show (((freshT 1).pages : Nat) : Int) = 2 from rfl] at hW; clear hw3; refine hW.mono ?_; rintro e w4 ⟨rfl, h4, hF4⟩; have h4 := h4.cut; have hF4s := hF4.size; have h14 : Below w.heap.size w w4 := h13.trans (hF4.below (B := w.heap.size) h13.size (fun k hk => hk.1)); have hP := Pages_laid h4 (fun k hk => hk.2) HG.out.2.1 (powBelow ht h14) (by omega) HG.out.2.2.1 2 HG.out.2.2.2.2.2.2.2 300 (by omega) HG.out.2.2.2.1; have hBv : Blk w4 w1.heap.size 5 (bl v0).toArray := hB3.fr hF4 (fun h9 => by have := h9.2; omega))
    | (go_at_call 33; refine hP.mono ?_; rintro e w5 ⟨A5, c5, rfl, ho5, hb5⟩; have h5 := h4.keep (KeepX.of_below hb5); have h5s := hb5.size; have h15 := h14.trans (hb5.mono h14.size); have hR := Read_laid h5 (fun k hk => Nat.lt_of_lt_of_le hk.2 hb5.size) HG.out.2.1 (powBelow ht h15) (by omega) HG.out.2.2.1 2 HG.out.2.2.2.2.2.2.2 300 (by omega) HG.out.2.2.2.1; have hE := fun W (hW : Below w5.heap.size w5 W) => Read_err (h5.keep (KeepX.of_below hW)) (fun k hk => Nat.lt_of_lt_of_le (Nat.lt_of_lt_of_le hk.2 hb5.size) hW.size) HG.out.2.1 (globBelow hg (h15.trans (hW.mono h15.size))) (powBelow ht (h15.trans (hW.mono h15.size))) (by have := hW.size; omega) HG.out.2.2.1 2 HG.out.2.2.2.2.2.2.2 299 (by omega) HG.out.2.2.2.2.1)
    | (go_at_call 14; refine hR.mono ?_; rintro e w6 ⟨A6, c6, rfl, ho6, hb6⟩; have h6s := hb6.size; have hE6 := hE w6 hb6; clear hR)
    | (go_at_call 14; refine hE6.mono ?_; rintro e w7 ⟨u7, rfl, hu7, hb7⟩; have h7s := hb7.size))
  go_at_call 34
  obtain ⟨w8, hw8⟩ : ∃ w8, w7.alloc (.cells #[.int .u32 2, .int .u32 3] 22) = w8 := ⟨_, rfl⟩
  have hb8 : Below w7.heap.size w7 w8 := (by rw [← hw8]; exact (Below.refl _ w7).alloc (Nat.le_refl _) _)
  have hB8 : Blk w8 w7.heap.size 22 #[.int .u32 2, .int .u32 3] := (by rw [← hw8]; exact Blk.new _ _ _)
  rw [hw8]
  clear hw8
  have h8s := hb8.size
  have h58 : Below w5.heap.size w5 w8 := hb6.trans ((hb7.trans (hb8.mono h7s)).mono h6s)
  have h68 : Below w6.heap.size w6 w8 := hb7.trans (hb8.mono h7s)
  have hr8 := reads_two (x := 2) (y := 3) hB8
  have hS := same_any c5 2 l0 [2, 3] w8 (Reads.of_own (own_belowN ho5 h58)) hr8 (by rw [← HL0.out]; decide)
  have hdl : decide (l0 = [2, 3]) = true := decide_eq_true HL0.out.symm
  rw [hdl] at hS
  refine hS.mono ?_
  rintro e w9 ⟨rfl, q9, hq9⟩
  have hb9 : Below w8.heap.size w8 w9 := (by rw [hq9]; exact ⟨rfl, rfl, rfl, Nat.le_refl _, fun _ _ => rfl⟩)
  have h9s := hb9.size
  have k1 := conv_reads c6 (Reads.of_own (own_belowN ho6 (h68.trans (hb9.mono (by omega)))))
  have k2 := conv_reads (w := w9) (B := w9.heap.size) (b := v0) 300 (reads_blkB ((hBv.below (hb5.trans ((h58.trans (hb9.mono (by omega))).mono h5s)) hBv.lt)))
  rw [hv0] at k1 k2
  clear hq9
  have h19 : Below w.heap.size w w9 := h15.trans ((h58.trans (hb9.mono (by omega))).mono h15.size)
  have hu9 := hu7.below (B' := w6.heap.size) (hb8.trans (hb9.mono h8s))
  have hI := is_chain (globBelow hg h19) (powBelow ht h19) hu9 (by omega)
  go_wp2_with (go_at_call 35; refine hI.mono ?_; rintro e w10 ⟨rfl, hf10⟩)
  go_ret
  exact ⟨rfl, h19.trans (hf10.below (B := w.heap.size) h19.size (fun k hk => by have hk : w6.heap.size ≤ k := hk; omega))⟩
end Go.Proofs.YtenfkghoolegfaaGreatDoor
namespace Go.Proofs.YtenfkghoolegfaaGreatDoor
open Ev
namespace Mb
set_option maxRecDepth 1000000
def tk (k : Nat) : Value := .chan (some k)
def i64 (n : Int) : Value := .int .i64 n
def no (_ : Nat) : Bool := false
/-- The deed's do at its first kind, told by a contract. -/
def spDo : SpF
  | [.pointer none, .pointer none, .agg ⟨[.chan (some 0), .chan (some 1), .chan (some 2), .chan (some 3)]⟩], s => some (.bool true, s)
  | _, _ => none
def ext : List (FuncId × SpF) := [(10, spKnown (.bool true)), (54, spDig 1 4)]
def ext0 : List (FuncId × SpF) := [(10, spKnown (.bool true)), (11, spDo)]
def deed : List Value := [.agg #[tk 0, tk 1, tk 2, tk 3]]
def lns : List (TypeId × Nat × Nat) := [(23, 3, 5)]
noncomputable def Cn (fs : List Fact) : Ctx := Ev.CX ext fs lns noCnv no
noncomputable def C0 (fs : List Fact) : Ctx := Ev.CX ext0 fs lns noCnv no
def fB : List Fact := [⟨.gtr, tk 5, i64 1200, .bool true⟩]
def f0 : List Fact := [⟨.gtr, tk 5, i64 1200, .bool false⟩]
def fK (a b c d e g : Bool) : List Fact := [⟨.gtr, tk 5, i64 1200, .bool false⟩, ⟨.eql, tk 0, i64 0, .bool a⟩, ⟨.eql, tk 0, i64 1, .bool b⟩, ⟨.eql, tk 0, i64 2, .bool c⟩, ⟨.geq, tk 2, i64 1, .bool d⟩, ⟨.leq, tk 2, i64 1000, .bool e⟩, ⟨.gtr, tk 2, i64 0, .bool g⟩, ⟨.lss, i64 0, tk 2, .bool g⟩]
theorem rB : isTr ((ev (Cn fB) 10000).f 3 deed ⟨0, .leaf⟩) = true := by kernel_rfl
theorem r0 : isTr ((ev (C0 f0) 10000).f 3 deed ⟨0, .leaf⟩) = true := by kernel_rfl
theorem r3 (d e g : Bool) : isTr ((ev (Cn (fK false false false d e g)) 10000).f 3 deed ⟨0, .leaf⟩) = true := by kernel_rfl
theorem r1a (e g : Bool) : isTr ((ev (Cn (fK false true false false e g)) 10000).f 3 deed ⟨0, .leaf⟩) = true := by kernel_rfl
theorem r1b : isTr ((ev (Cn (fK false true false true false true)) 10000).f 3 deed ⟨0, .leaf⟩) = true := by kernel_rfl
theorem r1c : isTr ((ev (Cn (fK false true false true true true)) 10000).f 3 deed ⟨0, .leaf⟩) = true := by kernel_rfl
theorem r2a (e g : Bool) : isTr ((ev (Cn (fK false false true false e g)) 10000).f 3 deed ⟨0, .leaf⟩) = true := by kernel_rfl
theorem r2b : isTr ((ev (Cn (fK false false true true false true)) 10000).f 3 deed ⟨0, .leaf⟩) = true := by kernel_rfl
theorem r2c : isTr ((ev (Cn (fK false false true true true true)) 10000).f 3 deed ⟨0, .leaf⟩) = true := by kernel_rfl
end Mb
end Go.Proofs.YtenfkghoolegfaaGreatDoor
set_option linter.unusedVariables false
namespace Go.Proofs.YtenfkghoolegfaaGreatDoor
open Go.RowKit
open Ev (ev AS AObj st1 c3 noCnv VRel LRel Hands hBase cxOK globT Fact)
namespace Mb
def fW (d e g : Bool) : List Fact := [⟨.geq, tk 5, i64 1, .bool d⟩, ⟨.leq, tk 5, i64 1000, .bool e⟩, ⟨.lss, i64 0, tk 5, .bool g⟩]
noncomputable def is0 (k : Int) (r : Option (Value × AS)) : Bool := match r with
  | some (.tuple ⟨[.int .u32 0, .int .i64 j]⟩, _) => decide (j = k)
  | _ => false
theorem is0_some {k : Int} {r : Option (Value × AS)} (h : is0 k r = true) : ∃ s, r = some (.tuple #[.int .u32 0, .int .i64 k], s) := by
  unfold is0 at h
  split at h
  · have := of_decide_eq_true h
    subst this
    exact ⟨_, rfl⟩
  · cases h
set_option maxRecDepth 1000000
theorem wA : is0 2 ((ev (Cn (fW false true false)) 1000).f 36 [.pointer none, tk 3] ⟨0, .leaf⟩) = true := by kernel_rfl
theorem wB : is0 2 ((ev (Cn (fW true false true)) 1000).f 36 [.pointer none, tk 3] ⟨0, .leaf⟩) = true := by kernel_rfl
theorem wC : is0 7 ((ev (Cn (fW true true true)) 1000).f 36 [.pointer none, tk 3] ⟨0, .leaf⟩) = true := by kernel_rfl
end Mb
open Mb
/-- What came in, one behind the other; then the types' handles. -/
def omC (kd : Int) (n : Nat) (sz : Int) (A : Option Addr) (l c : Nat) : Nat → Value
  | 0 => .int .i64 kd
  | 1 => .int .u32 (n : Nat)
  | 2 => .int .i64 sz
  | 3 => .slice A l c
  | 4 => .string ⟨(Lib.decDigits n).toArray⟩
  | 5 => .int .i64 l
  | k => .pointer (some ⟨5, k - hBase, none⟩)
section
variable {kd : Int} {n : Nat} {sz : Int} {A : Option Addr} {l c : Nat}
theorem handsC : Hands (omC kd n sz A l c) := fun t => by
  have : hBase + t = (hBase + t - 6) + 6 := by unfold hBase; omega
  rw [this]
  show Value.pointer (some ⟨5, hBase + t - 6 + 6 - hBase, none⟩) = _
  rw [show hBase + t - 6 + 6 - hBase = t by unfold hBase; omega]
theorem lnsC : ∀ f ∈ lns, Ev.LenOK (omC kd n sz A l c) Tryz.prog f := by
  intro f hf
  simp only [lns, List.mem_cons, List.not_mem_nil, or_false] at hf
  rcases hf with rfl
  exact Ev.len_slice Tryz.underlying23 rfl rfl
theorem ext_ok (hn : n < 4294967296) : ∀ p ∈ ext, ∀ C : Ev.Ctx, C.P = Tryz.prog → Ev.GlobOK C → Ev.SpOK (omC kd n sz A l c) C p.1 p.2 := by
  intro p hp
  simp only [ext, List.mem_cons, List.not_mem_nil, or_false] at hp
  rcases hp with rfl | rfl
  · exact Ev.known_calls handsC (fun args w => enters_of Tryz.func10 (by kernel_rfl) rfl args w) (fun w hg ht => clive_any w hg ht)
  · exact Ev.spDig_sp handsC (fun args w => enters_of Tryz.func54 (by kernel_rfl) rfl args w) rfl rfl (fun w ht => digits_any n hn w ht)
abbrev OkC (kd : Int) (n : Nat) (sz : Int) (A : Option Addr) (l c : Nat) (f : Fact) : Prop := f.ok (omC kd n sz A l c) Tryz.prog
theorem runC (hn : n < 4294967296) {fs : List Fact} (hf : ∀ f ∈ fs, OkC kd n sz A l c f) {fuel : Nat} {g : FuncId} {v : Value} {vs : List Value} {args : Array Value} {s' : AS} (hs : (ev (Cn fs) fuel).f g vs ⟨0, .leaf⟩ = some (v, s')) (hl : LRel (ω := omC kd n sz A l c) (fun _ => none) vs args.toList) (hsp : (Cn fs).sp g = none)
    (w : World) (hg : GlobAt w) (ht : PowAt w) : Calls Tryz.prog g args w fun e w' => ∃ v' m', e = .returned v' ∧ VRel (m' : Ev.M (omC kd n sz A l c)) v v' ∧ Below w.heap.size w w' := by
  have hC : Ev.COK (omC kd n sz A l c) (Cn fs) := cxOK handsC (ext_ok hn) hf lnsC Ev.noCnv_ok no
  have hB : Ev.Bs (omC kd n sz A l c) (Cn fs) w.heap.size w := by
    refine ⟨Nat.le_refl _, glob_of handsC hg, (fun k h => by cases h), (fun g cs h => ?_)⟩
    have h' : Ev.ivT g = some cs := h
    unfold Ev.ivT at h'
    cases hb : Nat.beq g 1 with
    | false => rw [hb] at h'; cases h'
    | true =>
      have := Nat.eq_of_beq_eq_true hb
      subst this
      rw [hb] at h'
      refine ⟨pow_lt ht, ?_⟩
      unfold PowAt at ht
      split at ht
      · rename_i cs' t fz he
        cases ht
        cases h'
        exact ⟨t, fz, he⟩
      · cases ht
  have := ((Ev.sound hC fuel).2.2.2.1 g vs _ v s' hs w.heap.size _ _ w args (Ev.sr_empty w) hl hB).2 hsp
  refine (callsIn_wide.1 (this.2 0)).mono ?_
  rintro e w' ⟨v', rfl, m', _, _, hr, hb⟩
  exact ⟨v', m', rfl, hr, hb⟩
theorem tup2_inv {ω : Nat → Value} {m : Ev.M ω} {a b v : Value} (h : VRel m (.tuple #[a, b]) v) (ha : Ev.plainV a = true) (hb : Ev.plainV b = true) : v = .tuple #[a, b] := by
  cases h with
  | plain _ hp => rfl
  | tuple cs cs' hs hh =>
    have e0 := Ev.plain_inv (hh 0 (by show 0 < 2; decide)) ha
    have e1 := Ev.plain_inv (hh 1 (by show 1 < 2; decide)) hb
    have h2 : cs'.size = 2 := hs.symm
    congr 1
    apply Array.ext
    · rw [h2]; rfl
    · intro i h8 h9
      have : i = 0 ∨ i = 1 := by simp at h9; omega
      rcases this with rfl | rfl
      · have e2 : cs'[0] = cs'.getD 0 undef := by simp [h8]
        rw [e2, e0]; rfl
      · have e2 : cs'[1] = cs'.getD 1 undef := by simp [h8]
        rw [e2, e1]; rfl
theorem c_geq {i : Nat} {p q : Int} {b : Bool} (hi : omC kd n sz A l c i = .int .i64 p) (h : decide (q ≤ p) = b) : OkC kd n sz A l c ⟨.geq, tk i, i64 q, .bool b⟩ := Fact.geq (ω := omC kd n sz A l c) (x := tk i) (y := i64 q) (k := .i64) (p := p) (q := q) (show Ev.den (omC kd n sz A l c) (tk i) = _ from hi) rfl rfl rfl h
theorem c_leq {i : Nat} {p q : Int} {b : Bool} (hi : omC kd n sz A l c i = .int .i64 p) (h : decide (p ≤ q) = b) : OkC kd n sz A l c ⟨.leq, tk i, i64 q, .bool b⟩ := Fact.leq (ω := omC kd n sz A l c) (x := tk i) (y := i64 q) (k := .i64) (p := p) (q := q) (show Ev.den (omC kd n sz A l c) (tk i) = _ from hi) rfl rfl rfl h
theorem c_gtr {i : Nat} {p q : Int} {b : Bool} (hi : omC kd n sz A l c i = .int .i64 p) (h : decide (q < p) = b) : OkC kd n sz A l c ⟨.gtr, tk i, i64 q, .bool b⟩ := Fact.gtr (ω := omC kd n sz A l c) (x := tk i) (y := i64 q) (k := .i64) (p := p) (q := q) (show Ev.den (omC kd n sz A l c) (tk i) = _ from hi) rfl rfl rfl h
theorem c_eql {i : Nat} {p q : Int} {b : Bool} (hi : omC kd n sz A l c i = .int .i64 p) (h : decide (p = q) = b) : OkC kd n sz A l c ⟨.eql, tk i, i64 q, .bool b⟩ := Fact.eql (ω := omC kd n sz A l c) (x := tk i) (y := i64 q) (k := .i64) (p := p) (q := q) (show Ev.den (omC kd n sz A l c) (tk i) = _ from hi) rfl rfl rfl h
theorem c_lss0 {i : Nat} {p q : Int} {b : Bool} (hi : omC kd n sz A l c i = .int .i64 p) (h : decide (q < p) = b) : OkC kd n sz A l c ⟨.lss, i64 q, tk i, .bool b⟩ := Fact.lss (ω := omC kd n sz A l c) (x := i64 q) (y := tk i) (k := .i64) (p := q) (q := p) rfl (show Ev.den (omC kd n sz A l c) (tk i) = _ from hi) rfl rfl h
theorem rWrite_nil (l c : Nat) (A : Option Addr) (w : World) (hg : GlobAt w) (ht : PowAt w) {k : Int} (hk : k = if 1 ≤ l ∧ l ≤ 1000 then 7 else 2) :
    Calls Tryz.prog 36 #[.pointer none, .slice A l c] w fun e w' => e = .returned (.tuple #[.int .u32 0, .int .i64 k]) ∧ Below w.heap.size w w' := by
  have hl : LRel (ω := omC 0 0 0 A l c) (fun _ => none) [.pointer none, tk 3] [.pointer none, .slice A l c] := LRel.cons (.plain _ rfl) (LRel.cons (.tok 3 rfl) (LRel.nil _))
  have key : ∀ d e, decide ((1 : Int) ≤ l) = d → decide ((l : Int) ≤ 1000) = e → 0 < l → ∀ f ∈ fW d e true, OkC 0 0 0 A l c f := by
    intro d e hd he hp f hf
    simp only [fW, List.mem_cons, List.not_mem_nil, or_false] at hf
    rcases hf with rfl | rfl | rfl
    · exact c_geq rfl hd
    · exact c_leq rfl he
    · exact c_lss0 rfl (decide_eq_true (by omega))
  by_cases h1 : 1 ≤ l
  · by_cases h2 : l ≤ 1000
    · rw [if_pos ⟨h1, h2⟩] at hk
      subst hk
      obtain ⟨s, hs⟩ := is0_some wC
      refine Calls.mono (runC (n := 0) (by decide) (key _ _ (decide_eq_true (by omega)) (decide_eq_true (by omega)) h1) hs hl rfl w hg ht) ?_
      rintro e w' ⟨v', m', rfl, hv, hb⟩
      exact ⟨by rw [tup2_inv hv rfl rfl], hb⟩
    · rw [if_neg (by omega)] at hk
      subst hk
      obtain ⟨s, hs⟩ := is0_some wB
      refine Calls.mono (runC (n := 0) (by decide) (key _ _ (decide_eq_true (by omega)) (decide_eq_false (by omega)) h1) hs hl rfl w hg ht) ?_
      rintro e w' ⟨v', m', rfl, hv, hb⟩
      exact ⟨by rw [tup2_inv hv rfl rfl], hb⟩
  · rw [if_neg (by omega)] at hk
    subst hk
    obtain ⟨s, hs⟩ := is0_some wA
    refine Calls.mono (runC (n := 0) (by decide) (fs := fW false true false) (fun f hf => ?_) hs hl rfl w hg ht) ?_
    rotate_left
    · rintro e w' ⟨v', m', rfl, hv, hb⟩
      exact ⟨by rw [tup2_inv hv rfl rfl], hb⟩
    simp only [fW, List.mem_cons, List.not_mem_nil, or_false] at hf
    rcases hf with rfl | rfl | rfl
    · exact c_geq rfl (decide_eq_false (by omega))
    · exact c_leq rfl (decide_eq_true (by omega))
    · exact c_lss0 rfl (decide_eq_false (by omega))
end
/-- The number that both answer. -/
def wrE (l : Nat) : Int := if 1 ≤ l ∧ l ≤ 1000 then 7 else 2
theorem Write_nils {w : World} {base : Nat} {A : Option Addr} {c l : Nat} {val : List UInt8} (ho : w.ownsRow base 5 1 (.slice A l c) l (bl val)) (hl : l ≤ 1200) (hg : GlobAt w) (ht : PowAt w) :
    Calls Tryz.prog 13 #[.pointer none, .slice A l c] w fun e w' => ∃ v, e = .returned (.tuple #[.int .u32 0, v]) ∧ ErrW w.heap.size w' sWrite ⟨#[]⟩ (wrE l) v ∧ Below w.heap.size w w' := by
  unfold wrE
  by_cases h : 1 ≤ l ∧ l ≤ 1000
  · rw [if_pos h]
    obtain ⟨g, c', e, hc, _⟩ := own_big ho (by omega)
    simp only [Value.slice.injEq] at e
    obtain ⟨rfl, _, rfl⟩ := e
    exact Write_nil l c _ h hc hg ht
  · rw [if_neg h]
    exact Write_no l c A h (by omega) hg ht none
set_option maxHeartbeats 4000000 in
set_option maxRecDepth 1000000 in
theorem do_0 (n : Nat) (sz : Int) (A : Option Addr) (l c : Nat) (w : World) {val : List UInt8} (hr : Reads w w.heap.size 1 A l (bl val)) (hl : l ≤ 1200) (hg : GlobAt w) (ht : PowAt w) :
    Calls Tryz.prog 11 #[.pointer none, .pointer none, .agg #[.int .i64 0, .int .u32 (n : Nat), .int .i64 sz, .slice A l c]] w fun e w' => e = .returned (.bool true) ∧ Below w.heap.size w w' := by
  have hk : 0 ≤ wrE l ∧ wrE l < 4611686018427387904 := by unfold wrE; split <;> decide
  have hne : wrE l ≠ 0 := by unfold wrE; split <;> decide
  obtain ⟨w3, hw3⟩ : ∃ w3, (w.alloc (.cells #[.int .i64 0, .int .u32 (n : Nat), .int .i64 sz, .slice A l c] 25)).alloc (.cells #[] 5) = w3 := ⟨_, rfl⟩
  have hb3 : Below w.heap.size w w3 := by rw [← hw3]; exact (((Below.refl w.heap.size w).alloc (by simp) _).alloc (by simp) _)
  have ho3 : w3.ownsRow w.heap.size 5 1 (.slice (some ⟨w.heap.size + 1, 0, none⟩) 0 0) 0 [] := by rw [← hw3]; exact own_emptyH _ _ _ (by simp) (by omega)
  have hr3 : Reads w3 w.heap.size 1 A l (bl val) := hr.below hb3
  have hs3 := hb3.size
  have hcd : w3.cell? ⟨w.heap.size, 3, none⟩ = some (.slice A l c) := by rw [← hw3]; exact ((blk_at (n := w.heap.size) rfl).alloc _).cell 3
  have HW := Lib.hid hw3
  clear hw3
  go_enter Tryz.func11, Tryz.ntmps11
  go_wp2_with (first
    | (rw [HW.out]; refine list_push TBy rfl rfl w.heap.size rfl ho3 rfl hr3 (bl_one _) (by omega) (by omega) (k := l) (by omega) (ys := bl val) rfl ?_; intro A4 c4 w4 ho4 hg4 hob4; have hb4 := grown_below hg4 (by omega) (fun ad e => (own_lt ho3 ad e).2); have hcd4 : w4.cell? ⟨w.heap.size, 3, none⟩ = some (.slice A l c) := (World.cell?_of_block (grown_at hg4 (World.block_lt_of_cell? w3 _ hcd) (fun ad e => by cases e; simp))).trans hcd; have hb04 := hb3.trans hb4; have hWr := Write_nils ho4 hl (globBelow hg hb04) (powBelow ht hb04))
    | (go_at_call 13; refine hWr.mono ?_; rintro e w5 ⟨v, rfl, hv, hb5⟩; obtain ⟨pv, rfl⟩ := hv.form hne; have hcd5 := (hb5.cell (World.block_lt_of_cell? w4 _ hcd4)).trans hcd4; have hb05 := hb04.trans (hb5.mono hb04.size); have hRw := rWrite_nil l c A w5 (globBelow hg hb05) (powBelow ht hb05) (k := wrE l) rfl)
    | (go_at_call 36; refine hRw.mono ?_; rintro e w6 ⟨rfl, hb6⟩; have hb06 := hb05.trans (hb6.mono hb05.size); have hTo := ctold_any (globBelow hg hb06) (powBelow ht hb06) (hv.below (hb6.mono (Nat.le_refl _))) (by have := pow_lt ht; have := hb04.size; omega) hk)
    | (go_at_call 37; refine hTo.mono ?_; rintro e w7 ⟨rfl, hf7⟩))
  go_ret
  have hs4 := hb4.size
  exact ⟨rfl, hb06.trans (hf7.below (B := w.heap.size) hb06.size (fun j hj => by omega))⟩
end Go.Proofs.YtenfkghoolegfaaGreatDoor
set_option linter.unusedVariables false
namespace Go.Proofs.YtenfkghoolegfaaGreatDoor
open Go.RowKit
open Ev (ev AS AObj st1 c3 noCnv VRel LRel Hands hBase cxOK globT Fact)
open Mb
set_option maxHeartbeats 4000000 in
set_option maxRecDepth 1000000 in
theorem csmall_ok {w : World} {b : Nat} {A : Option Addr} {l c : Nat} (hc : w.cell? ⟨b, 3, none⟩ = some (.slice A l c)) (hl : l ≤ 1200) :
    Calls Tryz.prog 9 #[.slice none 0 0, .slice (some ⟨b, 0, none⟩) 1 1] w fun e w' => e = .returned (.bool true) ∧ w' = w := by
  have h2 : decide (1200 < (l : Int)) = false := decide_eq_false (by omega)
  have h3 : decide (1200 < l) = false := decide_eq_false (by omega)
  go_enter Tryz.func9, Tryz.ntmps9
  go_wp2
  refine wp_loop_rounds 1 ?_
  rw [rounds_succ]
  go_wp2
  refine wp_loop_rounds 2 ?_
  rw [rounds_succ]
  go_wp2
  rw [rounds_succ]
  go_wp2
  go_ret
  exact ⟨rfl, rfl⟩
set_option maxHeartbeats 4000000 in
set_option maxRecDepth 1000000 in
theorem cnil_0 (n : Nat) (sz : Int) (A : Option Addr) (l c : Nat) (w : World) {val : List UInt8} (hr : Reads w w.heap.size 1 A l (bl val)) (hl : l ≤ 1200) (hg : GlobAt w) (ht : PowAt w) :
    Calls Tryz.prog 3 #[.agg #[.int .i64 0, .int .u32 (n : Nat), .int .i64 sz, .slice A l c]] w fun e w' => e = .returned (.bool true) ∧ Below w.heap.size w w' := by
  obtain ⟨w3, hw3⟩ : ∃ w3, (w.alloc (.cells #[.int .i64 0, .int .u32 (n : Nat), .int .i64 sz, .slice A l c] 25)).alloc (.cells #[.int .i64 0, .int .u32 (n : Nat), .int .i64 sz, .slice A l c] 25) = w3 := ⟨_, rfl⟩
  have hb3 : Below w.heap.size w w3 := by rw [← hw3]; exact (((Below.refl w.heap.size w).alloc (by simp) _).alloc (by simp) _)
  have hB0 : Blk w3 w.heap.size 25 #[.int .i64 0, .int .u32 (n : Nat), .int .i64 sz, .slice A l c] := by rw [← hw3]; exact (blk_at rfl).alloc _
  have hB1 : Blk w3 (w.heap.size + 1) 25 #[.int .i64 0, .int .u32 (n : Nat), .int .i64 sz, .slice A l c] := by rw [← hw3]; exact blk_at (by simp)
  have hs3 := hb3.size
  have hSm := csmall_ok (hB1.cell 3) hl
  have hDo := do_0 n sz A l c w3 (reads_mono (hr.below hb3) hs3) hl (globBelow hg hb3) (powBelow ht hb3)
  have HB := hB0
  have HW := Lib.hid hw3
  clear hw3 hB1
  have q0 := hB0.cell 0
  have q1 := hB0.cell 1
  have q2 := hB0.cell 2
  have q3 := hB0.cell 3
  go_enter Tryz.func3, Tryz.ntmps3
  go_wp2_with (first
    | (rw [HW.out]; go_at_call 9; refine hSm.mono ?_; rintro e w4 ⟨rfl, hww⟩; have hww := hww.symm; subst hww)
    | (go_at_call 11; refine hDo.mono ?_; rintro e w5 ⟨rfl, hb5⟩; have hb05 := hb3.trans (hb5.mono hs3); have hLv := clive_any w5 (globBelow hg hb05) (powBelow ht hb05))
    | (go_at_call 10; refine hLv.mono ?_; rintro e w6 ⟨rfl, hb6⟩))
  go_ret
  exact ⟨rfl, hb05.trans (hb6.mono hb05.size)⟩
/-- ChainNil at what came in. -/
theorem cnil_any (kd : Int) (n : Nat) (hn : n < 4294967296) (sz : Int) (A : Option Addr) (l c : Nat) (w : World) {val : List UInt8} (hr : Reads w w.heap.size 1 A l (bl val)) (hg : GlobAt w) (ht : PowAt w) :
    Calls Tryz.prog 3 #[.agg #[.int .i64 kd, .int .u32 (n : Nat), .int .i64 sz, .slice A l c]] w fun e w' => e = .returned (.bool true) ∧ Below w.heap.size w w' := by
  have hL : LRel (ω := omC kd n sz A l c) (fun _ => none) deed [.agg #[.int .i64 kd, .int .u32 (n : Nat), .int .i64 sz, .slice A l c]] := LRel.cons (LRel.agg (l := [tk 0, tk 1, tk 2, tk 3]) (l' := [_, _, _, _]) (LRel.cons (.tok 0 rfl) (LRel.cons (.tok 1 rfl) (LRel.cons (.tok 2 rfl) (LRel.cons (.tok 3 rfl) (LRel.nil _)))))) (LRel.nil _)
  have fin : ∀ {fs : List Fact}, (∀ f ∈ fs, OkC kd n sz A l c f) → isTr ((ev (Cn fs) 10000).f 3 deed ⟨0, .leaf⟩) = true →
      Calls Tryz.prog 3 #[.agg #[.int .i64 kd, .int .u32 (n : Nat), .int .i64 sz, .slice A l c]] w fun e w' => e = .returned (.bool true) ∧ Below w.heap.size w w' := fun hf hr9 => by
    obtain ⟨s, hs⟩ := isTr_some hr9
    refine (runC hn hf hs hL rfl w hg ht).mono ?_
    rintro e w' ⟨v', m', rfl, hv, hb⟩
    exact ⟨by rw [Ev.plain_inv hv rfl], hb⟩
  by_cases h0 : 1200 < l
  · refine fin (fs := fB) (fun f hf => ?_) rB
    simp only [fB, List.mem_cons, List.not_mem_nil, or_false] at hf
    rcases hf with rfl
    exact c_gtr rfl (decide_eq_true (by omega))
  by_cases h1 : kd = 0
  · subst h1
    exact cnil_0 n sz A l c w hr (by omega) hg ht
  have key : ∀ {b c' d e g : Bool}, decide (kd = 1) = b → decide (kd = 2) = c' → decide (1 ≤ sz) = d → decide (sz ≤ 1000) = e → decide (0 < sz) = g → ∀ f ∈ fK false b c' d e g, OkC kd n sz A l c f := by
    intro b c' d e g hb hc hd he hg9 f hf
    simp only [fK, List.mem_cons, List.not_mem_nil, or_false] at hf
    rcases hf with rfl | rfl | rfl | rfl | rfl | rfl | rfl | rfl
    · exact c_gtr rfl (decide_eq_false (by omega))
    · exact c_eql rfl (decide_eq_false h1)
    · exact c_eql rfl hb
    · exact c_eql rfl hc
    · exact c_geq rfl hd
    · exact c_leq rfl he
    · exact c_gtr rfl hg9
    · exact c_lss0 rfl hg9
  by_cases k1 : kd = 1
  · have k2 : decide (kd = 2) = false := decide_eq_false (by omega)
    by_cases s1 : 1 ≤ sz
    · by_cases s2 : sz ≤ 1000
      · exact fin (key (decide_eq_true k1) k2 (decide_eq_true s1) (decide_eq_true s2) (decide_eq_true (by omega))) r1c
      · exact fin (key (decide_eq_true k1) k2 (decide_eq_true s1) (decide_eq_false s2) (decide_eq_true (by omega))) r1b
    · exact fin (key (decide_eq_true k1) k2 (decide_eq_false s1) rfl rfl) (r1a _ _)
  by_cases k2 : kd = 2
  · by_cases s1 : 1 ≤ sz
    · by_cases s2 : sz ≤ 1000
      · exact fin (key (decide_eq_false k1) (decide_eq_true k2) (decide_eq_true s1) (decide_eq_true s2) (decide_eq_true (by omega))) r2c
      · exact fin (key (decide_eq_false k1) (decide_eq_true k2) (decide_eq_true s1) (decide_eq_false s2) (decide_eq_true (by omega))) r2b
    · exact fin (key (decide_eq_false k1) (decide_eq_true k2) (decide_eq_false s1) rfl rfl) (r2a _ _)
  exact fin (key (decide_eq_false k1) (decide_eq_false k2) rfl rfl rfl) (r3 _ _ _)
end Go.Proofs.YtenfkghoolegfaaGreatDoor
