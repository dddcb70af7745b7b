/- A file more on the disk that is loaded. Loading, file by file, in plain words. An entry that comes into a directory, then its value. The program's loader: a file, or none. The program's Load, walked. DiskLoads, walked. -/
import Derived.Test.YtekajggjoeimoaaGreatDoorLm
import Derived.Test.YtekajggjoeimoaaGreatDoorLn
set_option linter.unusedVariables false
namespace Go.Proofs.YtekajggjoeimoaaGreatDoor
open Go.RowKit Go.Sort
theorem dirF_append : ∀ (k : Nat) (l : List Fl) (x : Fl), dirF k (l ++ [x]) = dirF k l ++ [(⟨⟨x.1.toArray⟩, k + l.length⟩ : En)]
  | k, [], x => rfl
  | k, y :: l, x => by
    rw [List.cons_append, dirF, dirF_append (k + 1) l x, dirF, List.length_cons]
    simp only [List.cons_append, List.cons.injEq, true_and]
    congr 2
    congr 1
    omega
theorem live_mkP {room : Int} {l : List Fl} {i : Nat} : i ∈ (mkP room l).live ↔ i < l.length := by
  have e : (mkP room l).live = (dirF 0 l).map (·.id) := by unfold DP.live mkP; simp
  rw [e, List.mem_map]
  constructor
  · rintro ⟨en, he, rfl⟩
    obtain ⟨j, x, h1, _, h3⟩ := dirF_mem 0 l en he
    have := (List.getElem?_eq_some_iff.1 h1).1
    omega
  · intro h
    have := dirF_get 0 l i _ (List.getElem?_eq_getElem h)
    exact ⟨_, List.mem_of_getElem? this, by simp⟩
theorem file_mkP_at {room : Int} {l : List Fl} {i : Nat} : (mkP room l).file i = (l.map (·.2)).getD i [] := rfl
theorem FlOK.fresh {l : List Fl} {x : Fl} (h : FlOK (l ++ [x])) : findP ⟨x.1.toArray⟩ (dirF 0 l) = none := by
  cases hf : findP ⟨x.1.toArray⟩ (dirF 0 l) with
  | none => rfl
  | some j =>
    obtain ⟨k, y, h1, h2, _⟩ := dirF_mem 0 _ _ (findP_mem hf)
    have e : x.1 = y.1 := by
      have := congrArg (fun z : ByteArray => z.data.toList) h2
      simpa using this
    have hy := List.mem_of_getElem? h1
    have := (List.pairwise_append.1 h.up).2.2 y hy x (by simp)
    rw [e] at this
    exact absurd (List.le_refl _) this
section
variable {X : Nat → Prop} {w w' : World} {db M1 M2 f : Nat} {v3 v4 u0 u1 : Value} {q : DQ} {fs : List Nat} {V : Nat → Bool → Value} {C : Nat → Bool → List ByteArray} {fb : Nat → Nat} {room : Int} {l : List Fl} {x : Fl}
theorem PD.add (hfl : FlOK (l ++ [x])) (hr : 0 ≤ room ∧ room ≤ 4096) (hXn : ∀ k, w.heap.size ≤ k → X k) (hD : DiskV X w db M1 M2 v3 v4 q) (hF : FilesV X w fs V C) (ht : Tie fb fs C q (mkP room l))
    (hk : ∀ (k : Nat) (cs : Array Value) (t : TypeId), FT t ∨ DT t → w.heap[k]? = some (.cells cs t (0, 0)) → w'.heap[k]? = some (.cells cs t (0, 0)))
    (m1 : w'.heap[M1]? = some (.map ((q.dir ++ [(⟨⟨x.1.toArray⟩, f, q.dck⟩ : DE)]).map DE.ent).toArray (q.dck + 1))) (m2 : w'.heap[M2]? = some (.map ((q.now ++ [(⟨⟨x.1.toArray⟩, f, q.nck⟩ : DE)]).map DE.ent).toArray (q.nck + 1)))
    (hf : Blk w' f 103 #[u0, u1]) (hfw : w.heap.size ≤ f) (r0 : w'.ownsRow w.heap.size 101 1 u0 x.2.length (strs x.2)) (r1 : w'.ownsRow w.heap.size 101 1 u1 x.2.length (strs x.2)) (hne : ∀ k, u0.ownBlock = some k → u1.ownBlock = some k → False) :
    PD X w' db (mkP room (l ++ [x])) := by
  have hwf := mkP_wf hfl hr
  have hfresh := hfl.fresh
  have hfs : ∀ g ∈ fs, g < w.heap.size := fun g hg => (hF.blk g hg).lt
  have hfne : ∀ g ∈ fs, g ≠ f := fun g hg e => by have := hfs g hg; omega
  have lk1 : lkF ⟨x.1.toArray⟩ q.dir = none := by rw [ht.dir]; show Option.map fb (findP _ (dirF 0 l)) = none; rw [hfresh]; rfl
  have lk2 : lkF ⟨x.1.toArray⟩ q.now = none := by rw [ht.now]; show Option.map fb (findP _ (dirF 0 l)) = none; rw [hfresh]; rfl
  have own_lt : ∀ g ∈ fs, ∀ b k, (V g b).ownBlock = some k → k < w.heap.size := fun g hg b k h => (hF.row g hg b).lt h
  have own_ge0 : ∀ k, u0.ownBlock = some k → w.heap.size ≤ k := fun k h => (r0.lt k h).1
  have own_ge1 : ∀ k, u1.ownBlock = some k → w.heap.size ≤ k := fun k h => (r1.lt k h).1
  have hlook : ∀ (es : List DE) (ck : Nat), (∀ y, lkF y es = (findP y (dirF 0 l)).map fb) → ∀ y, lkF y (es ++ [(⟨⟨x.1.toArray⟩, f, ck⟩ : DE)]) = (findP y (dirF 0 (l ++ [x]))).map (fun i => if i = l.length then f else fb i) := fun es ck he y => by
    rw [lkF_append, dirF_append, findP_append, he, Nat.zero_add]
    cases hy : findP y (dirF 0 l) with
    | some i =>
      obtain ⟨k, z, h1, _, h3⟩ := dirF_mem 0 _ _ (findP_mem hy)
      have hlt := (List.getElem?_eq_some_iff.1 h1).1
      have hi : i < l.length := by have h3' : i = 0 + k := h3; omega
      simp [show i ≠ l.length by omega]
    | none =>
      by_cases e : (⟨x.1.toArray⟩ : ByteArray) = y
      · simp [e]
      · simp [e]
  have hcases : ∀ i ∈ (mkP room (l ++ [x])).live, i = l.length ∨ (i ≠ l.length ∧ i ∈ (mkP room l).live ∧ (mkP room (l ++ [x])).file i = (mkP room l).file i) := fun i hi => by
    have h1 := live_mkP.1 hi
    rw [List.length_append, List.length_singleton] at h1
    by_cases e : i = l.length
    · exact .inl e
    · refine .inr ⟨e, live_mkP.2 (by omega), ?_⟩
      rw [file_mkP_at, file_mkP_at, List.map_append, List.getD_eq_getElem?_getD, List.getD_eq_getElem?_getD, List.getElem?_append_left (by rw [List.length_map]; omega)]
  have hlast : (mkP room (l ++ [x])).file l.length = x.2 := by
    rw [file_mkP_at, List.map_append, List.getD_eq_getElem?_getD, List.getElem?_append_right (by rw [List.length_map]; omega), List.length_map, Nat.sub_self]
    rfl
  have hcont : ∀ (l' : List Fl) i, (mkP room l').cont i = (mkP room l').file i := fun _ _ => rfl
  refine ⟨M1, M2, v3, v4, { q with dir := q.dir ++ [(⟨⟨x.1.toArray⟩, f, q.dck⟩ : DE)], dck := q.dck + 1, now := q.now ++ [(⟨⟨x.1.toArray⟩, f, q.nck⟩ : DE)], nck := q.nck + 1 }, f :: fs, fun g b => if g = f then (if b then u1 else u0) else V g b, fun g b => if g = f then x.2 else C g b, fun i => if i = l.length then f else fb i, ?_, ?_, ?_⟩
  · refine ⟨hk _ _ _ (.inr (.inl rfl)) hD.blk, m1, m2, hD.ne, hD.inX, hD.inX1, hD.inX2, ht.ok1.put lk1 f, ht.ok2.put lk2 f, hD.chs.keep (fun k cs _ _ h => hk k cs _ (.inr (.inr (.inl rfl))) h) (fun _ h => h), hD.wrs.keep (fun k cs _ _ h => hk k cs _ (.inr (.inr (.inr rfl))) h) (fun _ h => h)⟩
  · refine ⟨fun g hg => ?_, fun g hg => ?_, fun g hg b => ?_, fun g hg g' hg' a b k h1 h2 => ?_⟩
    · rcases List.mem_cons.1 hg with rfl | hg
      · simpa using hf
      · simp only [if_neg (hfne g hg)]
        exact hk _ _ _ (.inl (.inl rfl)) (hF.blk g hg)
    · rcases List.mem_cons.1 hg with rfl | hg
      · exact hXn _ hfw
      · exact hF.inX g hg
    · rcases List.mem_cons.1 hg with rfl | hg
      · simp only [if_true]
        cases b with
        | false => exact RowX.of_own r0 (fun k h => hXn _ (own_ge0 k h))
        | true => exact RowX.of_own r1 (fun k h => hXn _ (own_ge1 k h))
      · simp only [if_neg (hfne g hg)]
        exact (hF.row g hg b).keep (fun k cs _ _ h => hk k cs _ (.inl (.inr rfl)) h) (fun _ h => h)
    · rcases List.mem_cons.1 hg with rfl | hg1
      · rcases List.mem_cons.1 hg' with rfl | hg2
        · refine ⟨rfl, ?_⟩
          simp only [if_true] at h1 h2
          cases a <;> cases b
          · rfl
          · exact (hne k h1 h2).elim
          · exact (hne k h2 h1).elim
          · rfl
        · simp only [if_true, if_neg (hfne g' hg2)] at h1 h2
          have := own_lt g' hg2 b k h2
          cases a
          · have := own_ge0 k h1; omega
          · have := own_ge1 k h1; omega
      · rcases List.mem_cons.1 hg' with rfl | hg2
        · simp only [if_true, if_neg (hfne g hg1)] at h1 h2
          have := own_lt g hg1 a k h1
          cases b
          · have := own_ge0 k h2; omega
          · have := own_ge1 k h2; omega
        · simp only [if_neg (hfne g hg1), if_neg (hfne g' hg2)] at h1 h2
          exact hF.inj g hg1 g' hg2 a b k h1 h2
  · refine ⟨hwf, ht.arms, ht.ok1.put lk1 f, ht.ok2.put lk2 f, hlook _ _ ht.dir, hlook _ _ ht.now, ht.chs, ht.wrs, fun i hi j hj e => ?_, fun i hi => ?_, fun i hi => ?_, fun i hi => ?_⟩
    · rcases hcases i hi with rfl | ⟨n1, l1, _⟩
      · rcases hcases j hj with rfl | ⟨n2, l2, _⟩
        · rfl
        · simp only [if_true, if_neg n2] at e
          exact absurd e.symm (hfne _ (ht.mem j l2))
      · rcases hcases j hj with rfl | ⟨n2, l2, _⟩
        · simp only [if_true, if_neg n1] at e
          exact absurd e (hfne _ (ht.mem i l1))
        · simp only [if_neg n1, if_neg n2] at e
          exact ht.inj i l1 j l2 e
    · rcases hcases i hi with rfl | ⟨n1, l1, _⟩
      · simp
      · simp only [if_neg n1]
        exact List.mem_cons_of_mem _ (ht.mem i l1)
    · rcases hcases i hi with rfl | ⟨n1, l1, e1⟩
      · simp only [if_true]
        exact hlast.symm
      · simp only [if_neg n1, if_neg (hfne _ (ht.mem i l1))]
        rw [e1]
        exact ht.cs i l1
    · rw [hcont]
      rcases hcases i hi with rfl | ⟨n1, l1, e1⟩
      · simp only [if_true]
        exact hlast.symm
      · simp only [if_neg n1, if_neg (hfne _ (ht.mem i l1))]
        rw [e1, ← hcont]
        exact ht.cn i l1
end
end Go.Proofs.YtekajggjoeimoaaGreatDoor
set_option linter.unusedVariables false
namespace Go.Proofs.YtekajggjoeimoaaGreatDoor
open Go.RowKit
theorem takeF_0 (last : List UInt8) (nf : Nat) (b : List UInt8) : takeF last nf b = if 8 ≤ nf then none else takeF last 0 b := by
  unfold takeF
  by_cases h : 8 ≤ nf
  · rw [if_pos h, if_pos (.inr (.inr (.inr h)))]
  · rw [if_neg h]
    have e : ((getB b).2.2 ≠ 0 ∨ nameOK ⟨(getB b).1.toArray⟩ = false ∨ (getB b).1 ≤ last ∨ 8 ≤ nf) ↔ ((getB b).2.2 ≠ 0 ∨ nameOK ⟨(getB b).1.toArray⟩ = false ∨ (getB b).1 ≤ last ∨ 8 ≤ 0) := by
      simp [h]
    by_cases h2 : ((getB b).2.2 ≠ 0 ∨ nameOK ⟨(getB b).1.toArray⟩ = false ∨ (getB b).1 ≤ last ∨ 8 ≤ 0)
    · rw [if_pos h2, if_pos (e.2 h2)]
    · rw [if_neg h2, if_neg (fun h3 => h2 (e.1 h3))]
/-- What has been loaded, and what is left. -/
structure LdOK (b : List UInt8) (ls : List Fl) (last b' : List UInt8) : Prop where
  fl : FlOK ls
  le : ∀ y ∈ ls, y.1 ≤ last
  eq : loadL 9 [] 0 b = (loadL (9 - ls.length) last ls.length b').map (ls ++ ·)
section
variable {b b' last r : List UInt8} {ls : List Fl} {x : Fl}
theorem LdOK.start (b : List UInt8) : LdOK b [] [] b := ⟨⟨by simp, fun x h => (by cases h), List.Pairwise.nil⟩, fun y h => (by cases h), by simp⟩
theorem LdOK.none (h : LdOK b ls last b') (hb : 0 < b'.length) (ht : takeF last 0 b' = none ∨ 8 ≤ ls.length) : loadL 9 [] 0 b = none := by
  rw [h.eq]
  obtain ⟨f, hf⟩ : ∃ f, 9 - ls.length = f + 1 := ⟨8 - ls.length, by have := h.fl.len; omega⟩
  rw [hf]
  cases b' with
  | nil => simp at hb
  | cons c b' =>
    rw [loadL, takeF_0]
    by_cases h8 : 8 ≤ ls.length
    · rw [if_pos h8]; rfl
    · rw [if_neg h8, ht.resolve_right h8]; rfl
theorem LdOK.next (h : LdOK b ls last b') (ht : takeF last 0 b' = some (x, r)) (h8 : ls.length < 8) : LdOK b (ls ++ [x]) x.1 r ∧ r.length < b'.length := by
  obtain ⟨e, t1, t2, _, t4, t5, t6⟩ := put_takeF ht
  refine ⟨⟨⟨by simp; omega, fun y hy => ?_, ?_⟩, fun y hy => ?_, ?_⟩, t6⟩
  · rcases List.mem_append.1 hy with hy | hy
    · exact h.fl.ok y hy
    · obtain rfl := List.mem_singleton.1 hy; exact ⟨t1, t4, t5⟩
  · rw [List.pairwise_append]
    refine ⟨h.fl.up, List.pairwise_singleton _ _, fun y hy z hz => ?_⟩
    obtain rfl := List.mem_singleton.1 hz
    exact fun hle => t2 (List.le_trans hle (h.le y hy))
  · rcases List.mem_append.1 hy with hy | hy
    · exact List.le_trans (h.le y hy) (List.le_of_lt (List.not_le.1 t2))
    · obtain rfl := List.mem_singleton.1 hy; exact List.le_refl _
  · rw [h.eq]
    obtain ⟨f, hf⟩ : ∃ f, 9 - ls.length = f + 1 := ⟨8 - ls.length, by omega⟩
    rw [hf, List.length_append, List.length_singleton, show 9 - (ls.length + 1) = f by omega]
    cases b' with
    | nil => simp at t6
    | cons c b' =>
      rw [loadL, takeF_0, if_neg (by omega), ht]
      simp only [Option.map_map]
      congr 1
      funext l
      simp
theorem LdOK.done (h : LdOK b ls last []) : loadL 9 [] 0 b = some ls := by
  rw [h.eq]
  have : loadL (9 - ls.length) last ls.length [] = some [] := by unfold loadL; rfl
  rw [this]
  simp
theorem sumF_append (l : List Fl) (x : Fl) : sumF (l ++ [x]) = sumF l + x.2.length := by simp [sumF]
theorem FlOK.sum (h : FlOK ls) : sumF ls ≤ 32768 := by
  have : ∀ l : List Fl, (∀ x ∈ l, x.2.length ≤ 4096) → sumF l ≤ l.length * 4096 := by
    intro l
    induction l with
    | nil => intro _; simp [sumF]
    | cons x l ih =>
      intro hl
      have h1 := hl x List.mem_cons_self
      have h2 := ih (fun y hy => hl y (List.mem_cons_of_mem _ hy))
      unfold sumF at h2 ⊢
      simp only [List.map_cons, List.sum_cons, List.length_cons]
      omega
  have h2 := this ls (fun x hx => (h.ok x hx).2.1)
  have := h.len
  omega
end
end Go.Proofs.YtekajggjoeimoaaGreatDoor
set_option linter.unusedVariables false
namespace Go.Proofs.YtekajggjoeimoaaGreatDoor
open Go.RowKit
theorem run_entry {w : World} {M : Nat} {l : List DE} {clock : Nat} {nm : ByteArray} (hM : w.heap[M]? = some (.map (l.map DE.ent).toArray clock)) (hl : look nm l 0 = none) :
    ∃ w1, (Instr.mapEntry 62 (.map (some M)) (.string nm)).run Tryz.prog w = .ok (.tuple #[.pointer none, .int .i64 (clock : Nat)]) w1 ∧ MapTo w w1 M ((l.map DE.ent) ++ [MapEntry.mk (.string nm) (.pointer none) clock]).toArray (clock + 1) := by
  obtain ⟨w1, h1, h2⟩ := setMap (P := Tryz.prog) (es' := ((l.map DE.ent) ++ [MapEntry.mk (.string nm) (.pointer none) clock]).toArray) (clock' := clock + 1) hM
  refine ⟨w1, ?_, h2⟩
  have hf := find_look nm l 0
  rw [hl] at hf
  have he : (l.map DE.ent).toArray.push (MapEntry.mk (.string nm) (.pointer none) clock) = ((l.map DE.ent) ++ [MapEntry.mk (.string nm) (.pointer none) clock]).toArray := by simp
  simp only [Instr.mapEntry, Sem.run_bind, run_underlying Tryz.underlying62, getMap hM, chk, Instr.findKey, run_underlying Tryz.underlying9, hf, Result.andThen, Option.map_none, Sem.run_pure, zeroPk, he, h1, goInt]
theorem findIdx_last {es : List MapEntry} {x : MapEntry} (h : ∀ y ∈ es, y.born < x.born) : (es ++ [x]).findIdx? (fun e => ((e.born : Nat) : Int) == ((x.born : Nat) : Int)) = some es.length := by
  induction es with
  | nil => simp [List.findIdx?_cons]
  | cons y es ih =>
    have hy := h y List.mem_cons_self
    have hb : (((y.born : Nat) : Int) == ((x.born : Nat) : Int)) = false := by simp; omega
    rw [List.cons_append, List.findIdx?_cons, hb, ih (fun z hz => h z (List.mem_cons_of_mem _ hz))]
    simp
theorem modify_end {α : Type} (f : α → α) (a : α) : ∀ l : List α, (l ++ [a]).modify l.length f = l ++ [f a]
  | [] => rfl
  | b :: r => by simp [List.modify_succ_cons, modify_end f a r]
theorem run_entryStore {w : World} {M : Nat} {l : List DE} {clock : Nat} {nm : ByteArray} (f : Nat) (ok : MapOK l clock) (hM : w.heap[M]? = some (.map ((l.map DE.ent) ++ [MapEntry.mk (.string nm) (.pointer none) clock]).toArray (clock + 1))) :
    ∃ w1, (Instr.entryStore 62 (.map (some M)) (.int .i64 (clock : Nat)) (.pointer (some ⟨f, 0, none⟩))).run Tryz.prog w = .ok () w1 ∧ MapTo w w1 M ((l ++ [(⟨nm, f, clock⟩ : DE)]).map DE.ent).toArray (clock + 1) := by
  obtain ⟨w1, h1, h2⟩ := setMap (P := Tryz.prog) (es' := ((l ++ [(⟨nm, f, clock⟩ : DE)]).map DE.ent).toArray) (clock' := clock + 1) hM
  refine ⟨w1, ?_, h2⟩
  have hidx : ((l.map DE.ent) ++ [MapEntry.mk (.string nm) (.pointer none) clock]).toArray.findIdx? (fun e => ((e.born : Nat) : Int) == ((clock : Nat) : Int)) = some (l.map DE.ent).length := by
    rw [List.findIdx?_toArray]
    exact findIdx_last (x := (MapEntry.mk (.string nm) (.pointer none) clock)) (fun y hy => by
      obtain ⟨z, hz, rfl⟩ := List.mem_map.1 hy
      exact ok.born z hz)
  have hmod : ((l.map DE.ent) ++ [MapEntry.mk (.string nm) (.pointer none) clock]).toArray.modify (l.map DE.ent).length (fun e => { e with val := .pointer (some ⟨f, 0, none⟩) }) = ((l ++ [(⟨nm, f, clock⟩ : DE)]).map DE.ent).toArray := by
    apply Array.toList_inj.1
    rw [Array.toList_modify, modify_end]
    simp [DE.ent, DE.val]
  simp only [Instr.entryStore, Sem.run_bind, getMap hM, Result.andThen, asInt, asIntOf, Sem.run_pure, hidx, hmod, h1]
end Go.Proofs.YtekajggjoeimoaaGreatDoor
set_option linter.unusedVariables false
namespace Go.Proofs.YtekajggjoeimoaaGreatDoor
open Go.RowKit Go.Sort
section
variable {B : Nat} {w : World} {lb c : Nat} {A : Option Addr} {b last r : List UInt8} {u : Int} {x : Fl}
theorem LFile_none (hl : Blk w lb 114 #[.slice A b.length c, .string ⟨last.toArray⟩, .int .i64 u]) (hlb : B ≤ lb) (hr : Reads w B 1 A b.length (bl b)) (hc : b.length ≤ c) (h9 : b.length ≤ 900000) (ht : takeF last 0 b = none) :
    Calls Tryz.prog 54 #[.pointer (some ⟨lb, 0, none⟩)] w fun e w' => e = .returned (.tuple #[.pointer none, .bool false]) ∧ Fr (· = lb) w w' := by
  by_cases h1 : (getB b).2.2 ≠ 0 ∨ nameOK ⟨(getB b).1.toArray⟩ = false ∨ (getB b).1 ≤ last
  · exact LFile_head hl hlb hr hc h9 h1
  · simp only [not_or, Bool.not_eq_false, Decidable.not_not] at h1
    obtain ⟨t1, t2, t3⟩ := h1
    refine LFile_tail hl hlb hr hc h9 t1 t2 t3 ?_
    unfold takeF at ht
    rw [if_neg (by simp only [not_or, Bool.not_eq_false, Decidable.not_not]; exact ⟨t1, t2, t3, by omega⟩)] at ht
    split at ht
    · assumption
    · cases ht
theorem LFile_take (hl : Blk w lb 114 #[.slice A b.length c, .string ⟨last.toArray⟩, .int .i64 u]) (hlb : B ≤ lb) (hr : Reads w B 1 A b.length (bl b)) (hc : b.length ≤ c) (h9 : b.length ≤ 900000) (hu : 0 ≤ u ∧ u ≤ 100000) (ht : takeF last 0 b = some (x, r)) :
    Calls Tryz.prog 54 #[.pointer (some ⟨lb, 0, none⟩)] w (FileLd B w lb u x r) := by
  unfold takeF at ht
  split at ht
  · cases ht
  · rename_i h1
    split at ht
    · cases ht
    · rename_i h2
      simp only [not_or, Bool.not_eq_false, Decidable.not_not] at h1 h2
      obtain ⟨t1, t2, t3, _⟩ := h1
      obtain ⟨q1, q2, q3⟩ := h2
      simp only [Option.some.injEq, Prod.mk.injEq] at ht
      obtain ⟨rfl, rfl⟩ := ht
      exact LFile_some hl hlb hr hc h9 hu t1 t2 t3 ⟨q1, by omega, by omega⟩
end
end Go.Proofs.YtekajggjoeimoaaGreatDoor
set_option linter.unusedVariables false
namespace Go.Proofs.YtekajggjoeimoaaGreatDoor
open Go.RowKit Go.Sort
def opLoad : ByteArray := ⟨#[108, 111, 97, 100]⟩
/-- What Load answers. -/
def LoadR (room : Int) (b : List UInt8) (w : World) (e : Ending) (w' : World) : Prop :=
  ((∃ db y, loadP room b = (some y, 0) ∧ e = .returned (.tuple #[.pointer (some ⟨db, 0, none⟩), .nilIface]) ∧ PD (fun k => w.heap.size ≤ k) w' db y) ∨ (∃ k v, loadP room b = (none, k) ∧ k ≠ 0 ∧ e = .returned (.tuple #[.pointer none, v]) ∧ ErrAt w.heap.size w' opLoad ByteArray.empty k v)) ∧ Below w.heap.size w w'
def slLen (w : World) (a : Addr) : Nat := match w.cell? a with
  | some (.slice _ n _) => n
  | _ => 0
theorem slLen_of {w : World} {a : Addr} {A : Option Addr} {n c : Nat} (h : w.cell? a = some (.slice A n c)) : slLen w a = n := by unfold slLen; rw [h]
theorem mapLen {w : World} {M : Nat} {l : List DE} {ck : Nat} (hM : w.heap[M]? = some (.map (l.map DE.ent).toArray ck)) (ty : TypeId) : (Builtin.len_ #[62] ty #[.map (some M)]).run Tryz.prog w = .ok (.int .i64 l.length) w := by
  simp [Builtin.len_, run_underlying Tryz.underlying62, getMap hM, goInt, Result.andThen]
theorem own_mapL {w w1 : World} {M : Nat} {es : Array MapEntry} {ck B e size n : Nat} {v : Value} {xs : List Value} (h : w.ownsRow B e size v n xs) (hm : MapTo w w1 M es ck) (hB : M < B) : w1.ownsRow B e size v n xs :=
  ⟨h.1, h.2.imp id fun ⟨g, cap, cur, e1, e2, e3, r⟩ => ⟨g, cap, cur, e1, e2, (hm.block g (by omega)).trans e3, r⟩⟩
theorem blk_mapL {w w1 : World} {M : Nat} {es : Array MapEntry} {ck k t : Nat} {cs : Array Value} (h : Blk w k t cs) (hm : MapTo w w1 M es ck) (hk : k ≠ M) : Blk w1 k t cs := (hm.block k hk).trans h
/-- The loop's worlds. -/
def LdRel (B : Nat) (room : Int) (b : List UInt8) (w0 : World) (db lb : Nat) (wr : World) : Prop :=
  ∃ ls last b' A' c', LdOK b ls last b' ∧ b'.length ≤ 900000 ∧ PD (fun k => B ≤ k ∧ k ≠ lb) wr db (mkP room ls) ∧ Blk wr lb 114 #[.slice A' b'.length c', .string ⟨last.toArray⟩, .int .i64 (sumF ls : Nat)] ∧ Reads wr B 1 A' b'.length (bl b') ∧ b'.length ≤ c' ∧ Below B w0 wr
set_option maxHeartbeats 16000000 in
set_option maxRecDepth 100000 in
theorem VLoad_0 {room : Int} (hr : 0 ≤ room ∧ room ≤ 4096) {A : Option Addr} {c : Nat} {b : List UInt8} {w : World} (hrd : Reads w w.heap.size 1 A b.length (bl b)) (hc : b.length ≤ c) (h9 : b.length ≤ 900000) :
    Calls Tryz.prog 17 #[.int .i64 room, .slice A b.length c] w (LoadR room b w) := by
  go_enter Tryz.func17, Tryz.ntmps17
  go_wp2_with (go_at_call 9; refine (new_go w hr).mono ?_; rintro e w1 ⟨⟨db, rfl, hP⟩, hb1⟩)
  have hlb : w.heap.size ≤ w1.heap.size := hb1.size
  have hP1 : PD (fun k => w.heap.size ≤ k ∧ k ≠ w1.heap.size) w1 db (newP room) := hP.only.more (fun k hk => ⟨hk.1, by have := hk.2.lt; omega⟩)
  have hA1 : Below w1.heap.size w1 (w1.alloc (.cells #[.slice A b.length c, .string ByteArray.empty, .int .i64 0] 114)) := (Below.refl _ w1).alloc (Nat.le_refl _) _
  have hP2 := hP1.off (FrF.of_below (X := fun _ => False) hA1) (fun _ _ h => h)
  have hL2 := Blk.new w1 114 #[.slice A b.length c, .string ByteArray.empty, .int .i64 0]
  have hB2 : Below w.heap.size w (w1.alloc (.cells #[.slice A b.length c, .string ByteArray.empty, .int .i64 0] 114)) := hb1.trans (hA1.mono hlb)
  clear hP hP1 hA1 hb1
  go_loopw [9, 10] (fun _ _ wr => LdRel w.heap.size room b w db w1.heap.size wr) (fun _ _ wr => slLen wr ⟨w1.heap.size, 0, none⟩)
  case atStart => exact ⟨[], [], b, A, c, LdOK.start b, h9, hP2, hL2, hrd.below hB2, hc, hB2⟩
  case round =>
    clear hP2 hL2 hB2
    obtain ⟨ls, last, b', A', c', hL, h9', hP, hBl, hR, hc', hB⟩ := hrel
    obtain ⟨wo, rfl⟩ : ∃ wo, wo = wr := ⟨wr, rfl⟩
    have c0 : wo.cell? ⟨w1.heap.size, 0, none⟩ = some (.slice A' b'.length c') := hBl.cell 0
    have c2 : wo.cell? ⟨w1.heap.size, 2, none⟩ = some (.int .i64 (sumF ls : Nat)) := hBl.cell 2
    have hsum := hL.fl.sum
    have hsl := slLen_of c0
    by_cases h0 : 0 < b'.length
    · have d1 : decide ((0 : Int) < (b'.length : Int)) = true := by simp; omega
      have d1' : decide (0 < b'.length) = true := by simpa using h0
      cases ht : takeF last 0 b' with
      | none =>
        have hX : loadP room b = (none, 44) := by
          unfold loadP
          rw [if_neg (by omega), hL.none h0 (.inl ht)]
        have hF := LFile_none hBl hlb hR hc' h9' ht
        have HH := Lib.hid (And.intro hX hB)
        clear hX hP hBl hR hB hL
        go_wp2_with (first
          | (go_at_call 54; refine hF.mono ?_; rintro e w6 ⟨rfl, hf6⟩)
          | (go_at_call 29; refine (fault_any _ _ _ _).mono ?_; rintro e w7 ⟨⟨v, rfl, hv⟩, hb7⟩))
        go_ret2
        obtain ⟨hX, hB⟩ := HH.out
        have s1 := hB.size
        have hb6 := fr_below hf6 (fun j hj => by subst hj; exact hlb) s1
        exact ⟨.inr ⟨44, v, hX, by decide, rfl, hv.mono (Nat.le_trans s1 hf6.size)⟩, (hB.trans hb6).trans (hb7.mono (Nat.le_trans s1 hf6.size))⟩
      | some xr =>
        obtain ⟨x, r⟩ := xr
        have hF := LFile_take hBl hlb hR hc' h9' (u := (sumF ls : Nat)) (by omega) ht
        obtain ⟨M1, M2, v3, v4, q, fs, V, C, fb, hD, hFl, hT⟩ := hP
        have hlw := hBl.lt
        have hM1 : M1 < wo.heap.size := (Array.getElem?_eq_some_iff.1 hD.m1).1
        have hM2 : M2 < wo.heap.size := (Array.getElem?_eq_some_iff.1 hD.m2).1
        have n1 : M1 ≠ w1.heap.size := hD.inX1.2
        have n2 : M2 ≠ w1.heap.size := hD.inX2.2
        have n0 : db ≠ w1.heap.size := hD.inX.2
        have hlenD : q.dir.length = ls.length := by rw [hT.lenD]; exact dirF_len 0 ls
        have hdm1 : db ≠ M1 := fun e => hD.m1_ne e.symm
        have hdm2 : db ≠ M2 := fun e => hD.m2_ne e.symm
        by_cases h8 : 8 ≤ ls.length
        · have hX : loadP room b = (none, 44) := by
            unfold loadP
            rw [if_neg (by omega), hL.none h0 (.inr h8)]
          have d8 : decide ((8 : Int) ≤ (ls.length : Int)) = true := by simp; omega
          have HH := Lib.hid (And.intro hX (And.intro hB hD))
          clear hX hBl hR hB hL hD hFl hT
          go_wp2_with (first
            | (go_at_call 54; refine hF.mono ?_; rintro e w6 ⟨f, v0, v5, A6, c6, rfl, hfw, hbf, ho0, ho1, hne, hl6, hr6, hc6, hf6⟩; have k1 : w6.cell? ⟨db, 1, none⟩ = some (.map (some M1)) := (show Blk w6 db 66 _ from (hf6.block db HH.out.2.2.blk.lt n0).trans HH.out.2.2.blk).cell 1; have hml := mapLen ((hf6.block M1 hM1 n1).trans HH.out.2.2.m1); rw [hlenD] at hml)
            | (go_at_call 29; refine (fault_any _ _ _ _).mono ?_; rintro e w7 ⟨⟨v, rfl, hv⟩, hb7⟩))
          go_ret2
          obtain ⟨hX, hB, _⟩ := HH.out
          have s1 := hB.size
          have hb6 := fr_below hf6 (fun j hj => by subst hj; exact hlb) s1
          exact ⟨.inr ⟨44, v, hX, by decide, rfl, hv.mono (Nat.le_trans s1 hf6.size)⟩, (hB.trans hb6).trans (hb7.mono (Nat.le_trans s1 hf6.size))⟩
        · obtain ⟨hN, hrl⟩ := hL.next ht (by omega)
          have d8 : decide ((8 : Int) ≤ (ls.length : Int)) = false := by simp; omega
          have lk1 : lkF ⟨x.1.toArray⟩ q.dir = none := by rw [hT.dir]; show Option.map fb (findP _ (dirF 0 ls)) = none; rw [hN.fl.fresh]; rfl
          have lk2 : lkF ⟨x.1.toArray⟩ q.now = none := by rw [hT.now]; show Option.map fb (findP _ (dirF 0 ls)) = none; rw [hN.fl.fresh]; rfl
          have HB := Lib.hid hBl
          have HH := Lib.hid (And.intro hB (And.intro hD (And.intro hFl (And.intro hT hN))))
          clear hBl hR hB hL hD hFl hT hN
          go_wp2_with (go_at_call 54; refine hF.mono ?_; rintro e w6 ⟨f, v0, v5, A6, c6, rfl, hfw, hbf, ho0, ho1, hne, hl6, hr6, hc6, hf6⟩; have k1 : w6.cell? ⟨db, 1, none⟩ = some (.map (some M1)) := (show Blk w6 db 66 _ from (hf6.block db HH.out.2.1.blk.lt n0).trans HH.out.2.1.blk).cell 1; have hml := mapLen ((hf6.block M1 hM1 n1).trans HH.out.2.1.m1); rw [hlenD] at hml)
          obtain ⟨hB, hD, hFl, hT, hN⟩ := HH.out
          have m1' : w6.drew.heap[M1]? = some (.map (q.dir.map DE.ent).toArray q.dck) := (hf6.block M1 hM1 n1).trans hD.m1
          have m2' : w6.drew.heap[M2]? = some (.map (q.now.map DE.ent).toArray q.nck) := (hf6.block M2 hM2 n2).trans hD.m2
          obtain ⟨wa, ra, hMa⟩ := run_entry m1' (lkF_none lk1)
          obtain ⟨wb, rb, hMb⟩ := run_entryStore f hT.ok1 hMa.map
          obtain ⟨wc, rc, hMc⟩ := run_entry (((hMb.block M2 hD.ne.symm).trans (hMa.block M2 hD.ne.symm)).trans m2') (lkF_none lk2)
          obtain ⟨wd, rd, hMd⟩ := run_entryStore f hT.ok2 hMc.map
          have bd6 : Blk w6.drew db 66 _ := (hf6.block db hD.blk.lt n0).trans hD.blk
          have bda := blk_mapL bd6 hMa hdm1
          have bdb := blk_mapL bda hMb hdm1
          have bdc := blk_mapL bdb hMc hdm2
          have bl6 : Blk w6.drew w1.heap.size 114 _ := hl6
          have bla := blk_mapL bl6 hMa n1.symm
          have blb := blk_mapL bla hMb n1.symm
          have blc := blk_mapL blb hMc n2.symm
          have bld := blk_mapL blc hMd n2.symm
          obtain ⟨nm, hnm⟩ : ∃ nm : ByteArray, (⟨x.1.toArray⟩ : ByteArray) = nm := ⟨_, rfl⟩
          rw [hnm] at ra rc hMa hMb hMc hMd bl6 bla blb blc bld
          have s1 : w6.drew.cell? ⟨db, 1, none⟩ = some (.map (some M1)) ∧ w6.drew.cell? ⟨db, 2, none⟩ = some (.map (some M2)) ∧ w6.drew.cell? ⟨w1.heap.size, 1, none⟩ = some (.string nm) := ⟨bd6.cell 1, bd6.cell 2, bl6.cell 1⟩
          have sa : wa.cell? ⟨db, 1, none⟩ = some (.map (some M1)) ∧ wa.cell? ⟨db, 2, none⟩ = some (.map (some M2)) ∧ wa.cell? ⟨w1.heap.size, 1, none⟩ = some (.string nm) := ⟨bda.cell 1, bda.cell 2, bla.cell 1⟩
          have sb : wb.cell? ⟨db, 1, none⟩ = some (.map (some M1)) ∧ wb.cell? ⟨db, 2, none⟩ = some (.map (some M2)) ∧ wb.cell? ⟨w1.heap.size, 1, none⟩ = some (.string nm) := ⟨bdb.cell 1, bdb.cell 2, blb.cell 1⟩
          have sc : wc.cell? ⟨db, 1, none⟩ = some (.map (some M1)) ∧ wc.cell? ⟨db, 2, none⟩ = some (.map (some M2)) ∧ wc.cell? ⟨w1.heap.size, 1, none⟩ = some (.string nm) := ⟨bdc.cell 1, bdc.cell 2, blc.cell 1⟩
          have HA := Lib.hid (And.intro hMa (And.intro hMb (And.intro hMc (And.intro hMd (And.intro bld hnm)))))
          clear hMa hMb hMc hMd bld hnm bda bdb bdc bla blb blc bd6 bl6 m1' m2' hB hD hFl hT hN
          refine regionE 23 (fun W0 => W0.cell? ⟨db, 1, none⟩ = some (.map (some M1)) ∧ W0.cell? ⟨db, 2, none⟩ = some (.map (some M2)) ∧ W0.cell? ⟨w1.heap.size, 1, none⟩ = some (.string nm)) (by kernel_rfl) (by kernel_rfl) (by kernel_rfl) (by kernel_rfl) (by kernel_rfl) (s1) (fun hHeld hTl => ?_)
          refine takeE 0 (v := ?_) hTl rfl (by decide) (by kernel_rfl) (by kernel_rfl) (fun _ _ _ h => h) hHeld (Or.inl ⟨by rfl, ?_⟩) (fun hTl => ?_)
          rotate_left
          · intro w hSw; (try dsimp only at hSw); go_simp
            all_goals with_reducible rfl
          try simp only [Act.put, List.setIfInBounds_toArray, List.set_cons_zero, List.set_cons_succ]
          refine takeE 1 (v := ?_) hTl rfl (by decide) (by kernel_rfl) (by kernel_rfl) (fun _ _ _ h => h) hHeld (Or.inl ⟨by rfl, ?_⟩) (fun hTl => ?_)
          rotate_left
          · intro w hSw; (try dsimp only at hSw); go_simp
            all_goals with_reducible rfl
          try simp only [Act.put, List.setIfInBounds_toArray, List.set_cons_zero, List.set_cons_succ]
          refine takeE 2 (v := ?_) hTl rfl (by decide) (by kernel_rfl) (by kernel_rfl) (fun _ _ _ h => h) hHeld (Or.inl ⟨by rfl, ?_⟩) (fun hTl => ?_)
          rotate_left
          · intro w hSw; (try dsimp only at hSw); go_simp
            all_goals with_reducible rfl
          try simp only [Act.put, List.setIfInBounds_toArray, List.set_cons_zero, List.set_cons_succ]
          refine takeE 3 (v := ?_) hTl rfl (by decide) (by kernel_rfl) (by kernel_rfl) (fun _ _ _ h => h) hHeld (Or.inl ⟨by rfl, ?_⟩) (fun hTl => ?_)
          rotate_left
          · intro w hSw; (try dsimp only at hSw); go_simp
            all_goals with_reducible rfl
          try simp only [Act.put, List.setIfInBounds_toArray, List.set_cons_zero, List.set_cons_succ]
          refine takeE 4 (v := ?_) hTl rfl (by decide) (by kernel_rfl) (by kernel_rfl) (fun _ _ _ h => h) hHeld (Or.inl ⟨by rfl, ?_⟩) (fun hTl => ?_)
          rotate_left
          · intro w hSw; (try dsimp only at hSw); go_simp
            all_goals with_reducible rfl
          try simp only [Act.put, List.setIfInBounds_toArray, List.set_cons_zero, List.set_cons_succ]
          refine takeE 5 (v := ?_) hTl rfl (by decide) (by kernel_rfl) (by kernel_rfl) (fun _ _ _ h => h) hHeld (Or.inl ⟨by rfl, ?_⟩) (fun hTl => ?_)
          rotate_left
          · intro w hSw; (try dsimp only at hSw); go_simp
            all_goals with_reducible rfl
          try simp only [Act.put, List.setIfInBounds_toArray, List.set_cons_zero, List.set_cons_succ]
          refine takeE 6 (v := ?_) hTl rfl (by decide) (by kernel_rfl) (by kernel_rfl) (fun _ _ _ h => h) hHeld (Or.inl ⟨by rfl, ?_⟩) (fun hTl => ?_)
          rotate_left
          · intro w hSw; (try dsimp only at hSw); go_simp
            all_goals with_reducible rfl
          try simp only [Act.put, List.setIfInBounds_toArray, List.set_cons_zero, List.set_cons_succ]
          refine takeE 7 (v := ?_) hTl rfl (by decide) (by kernel_rfl) (by kernel_rfl) (fun _ _ _ h => h) hHeld (Or.inl ⟨by rfl, ?_⟩) (fun hTl => ?_)
          rotate_left
          · intro w hSw; (try dsimp only at hSw); go_simp
            all_goals with_reducible rfl
          try simp only [Act.put, List.setIfInBounds_toArray, List.set_cons_zero, List.set_cons_succ]
          refine takeE 8 (v := ?_) hTl rfl (by decide) (by kernel_rfl) (by kernel_rfl) (fun _ _ _ h => h) hHeld (Or.inl ⟨by rfl, ?_⟩) (fun hTl => ?_)
          rotate_left
          · intro w hSw; (try dsimp only at hSw); go_simp
            all_goals with_reducible rfl
          try simp only [Act.put, List.setIfInBounds_toArray, List.set_cons_zero, List.set_cons_succ]
          refine takeE 9 (v := ?_) hTl rfl (by decide) (by kernel_rfl) (by kernel_rfl) (fun _ _ _ h => h) hHeld (Or.inl ⟨by rfl, ?_⟩) (fun hTl => ?_)
          rotate_left
          · intro w hSw; (try dsimp only at hSw); go_simp
            all_goals with_reducible rfl
          try simp only [Act.put, List.setIfInBounds_toArray, List.set_cons_zero, List.set_cons_succ]
          refine takeE 10 (v := ?_) hTl rfl (by decide) (by kernel_rfl) (by kernel_rfl) (fun _ _ _ h => h) hHeld (Or.inl ⟨by rfl, ?_⟩) (fun hTl => ?_)
          rotate_left
          · intro w hSw; (try dsimp only at hSw); go_simp
            all_goals with_reducible rfl
          try simp only [Act.put, List.setIfInBounds_toArray, List.set_cons_zero, List.set_cons_succ]
          refine takeE 11 (v := ?_) hTl rfl (by decide) (by kernel_rfl) (by kernel_rfl) (fun _ _ _ h => h) hHeld (Or.inl ⟨by rfl, ?_⟩) (fun hTl => ?_)
          rotate_left
          · intro w hSw; (try dsimp only at hSw); go_simp
            all_goals with_reducible rfl
          try simp only [Act.put, List.setIfInBounds_toArray, List.set_cons_zero, List.set_cons_succ]
          refine takeE 12 (v := ?_) hTl rfl (by decide) (by kernel_rfl) (by kernel_rfl) (fun _ _ _ h => h) hHeld (Or.inl ⟨by rfl, ?_⟩) (fun hTl => ?_)
          rotate_left
          · intro w hSw; (try dsimp only at hSw); go_simp
            all_goals with_reducible rfl
          try simp only [Act.put, List.setIfInBounds_toArray, List.set_cons_zero, List.set_cons_succ]
          refine takeE 13 (v := ?_) hTl rfl (by decide) (by kernel_rfl) (by kernel_rfl) (fun _ _ _ h => h) hHeld (Or.inl ⟨by rfl, ?_⟩) (fun hTl => ?_)
          rotate_left
          · intro w hSw; (try dsimp only at hSw); go_simp
            all_goals with_reducible rfl
          try simp only [Act.put, List.setIfInBounds_toArray, List.set_cons_zero, List.set_cons_succ]
          refine takeE 14 (v := ?_) hTl rfl (by decide) (by kernel_rfl) (by kernel_rfl) (fun _ _ _ h => h) hHeld (Or.inl ⟨by rfl, ?_⟩) (fun hTl => ?_)
          rotate_left
          · intro w hSw; (try dsimp only at hSw); go_simp
            all_goals with_reducible rfl
          try simp only [Act.put, List.setIfInBounds_toArray, List.set_cons_zero, List.set_cons_succ]
          refine takeE 15 (v := ?_) hTl rfl (by decide) (by kernel_rfl) (by kernel_rfl) (fun _ _ _ h => h) hHeld (Or.inl ⟨by rfl, ?_⟩) (fun hTl => ?_)
          rotate_left
          · intro w hSw; (try dsimp only at hSw); go_simp
            all_goals with_reducible rfl
          try simp only [Act.put, List.setIfInBounds_toArray, List.set_cons_zero, List.set_cons_succ]
          refine takeE 16 (v := ?_) hTl rfl (by decide) (by kernel_rfl) (by kernel_rfl) (fun _ _ _ h => h) hHeld (Or.inl ⟨by rfl, ?_⟩) (fun hTl => ?_)
          rotate_left
          · intro w hSw; (try dsimp only at hSw); go_simp
            all_goals with_reducible rfl
          try simp only [Act.put, List.setIfInBounds_toArray, List.set_cons_zero, List.set_cons_succ]
          refine takeE 17 (v := ?_) hTl rfl (by decide) (by kernel_rfl) (by kernel_rfl) (fun _ _ _ h => h) hHeld (Or.inl ⟨by rfl, ?_⟩) (fun hTl => ?_)
          rotate_left
          · intro w hSw; (try dsimp only at hSw); go_simp
            all_goals with_reducible rfl
          try simp only [Act.put, List.setIfInBounds_toArray, List.set_cons_zero, List.set_cons_succ]
          clear hTl
          refine oneE 18 rfl (by kernel_rfl) (fun K hK => ?_)
          go_simp
          refine hK.out _ _ (fun _ => sa) ?_
          clear hK K
          try simp only [Act.put, List.setIfInBounds_toArray, List.set_cons_zero, List.set_cons_succ]
          refine oneE 19 rfl (by kernel_rfl) (fun K hK => ?_)
          go_simp
          refine hK.out _ _ (fun _ => sa) ?_
          clear hK K
          try simp only [Act.put, List.setIfInBounds_toArray, List.set_cons_zero, List.set_cons_succ]
          refine oneE 20 rfl (by kernel_rfl) (fun K hK => ?_)
          go_simp
          refine hK.out _ _ (fun _ => sb) ?_
          clear hK K
          try simp only [Act.put, List.setIfInBounds_toArray, List.set_cons_zero, List.set_cons_succ]
          refine oneE 21 rfl (by kernel_rfl) (fun K hK => ?_)
          go_simp
          refine hK.out _ _ (fun _ => sc) ?_
          clear hK K
          try simp only [Act.put, List.setIfInBounds_toArray, List.set_cons_zero, List.set_cons_succ]
          refine oneE 22 rfl (by kernel_rfl) (fun K hK => ?_)
          go_simp
          refine hK.out _ _ (fun _ => sc) ?_
          clear hK K
          try simp only [Act.put, List.setIfInBounds_toArray, List.set_cons_zero, List.set_cons_succ]
          refine oneE 23 rfl (by kernel_rfl) (fun K hK => ?_)
          go_simp
          refine hK.out _ _ (fun h => absurd h (by decide)) ?_
          clear hK K
          try simp only [Act.put, List.setIfInBounds_toArray, List.set_cons_zero, List.set_cons_succ]
          refine doneE (by kernel_rfl) ?_ _
          go_wp2
          go_roundw
          case rel =>
            obtain ⟨hB, hD, hFl, hT, hN⟩ := HH.out
            obtain ⟨hMa, hMb, hMc, hMd, bld, hnm⟩ := HA.out
            have z1 := hB.size
            have z6 := hf6.size
            have hxM : ∀ k, k ≠ w1.heap.size → k ≠ M1 → k ≠ M2 → k < wo.heap.size → wd.heap[k]? = wo.heap[k]? := fun k e0 e1 e2 hk => (hMd.block k e2).trans ((hMc.block k e2).trans ((hMb.block k e1).trans ((hMa.block k e1).trans (hf6.block k hk e0))))
            have q1 : w.heap.size ≤ M1 := hD.inX1.1
            have q2 : w.heap.size ≤ M2 := hD.inX2.1
            have bA : Below w.heap.size w6 wd := by
              have g0 : Below w.heap.size w6 w6.drew := (Below.refl _ w6).drew
              have ga := fr_below hMa.fr (fun j hj => by subst hj; exact q1) (Nat.le_trans z1 z6)
              have gb := fr_below hMb.fr (fun j hj => by subst hj; exact q1) (by rw [hMa.size]; exact Nat.le_trans z1 z6)
              have gc := fr_below hMc.fr (fun j hj => by subst hj; exact q2) (by rw [hMb.size, hMa.size]; exact Nat.le_trans z1 z6)
              have gd := fr_below hMd.fr (fun j hj => by subst hj; exact q2) (by rw [hMc.size, hMb.size, hMa.size]; exact Nat.le_trans z1 z6)
              exact (((g0.trans ga).trans gb).trans gc).trans gd
            have fM1 : f ≠ M1 := by omega
            have fM2 : f ≠ M2 := by omega
            have hbf' : Blk wd f 103 #[v0, v5] := blk_mapL (blk_mapL (blk_mapL (blk_mapL (show Blk w6.drew f 103 _ from hbf) hMa fM1) hMb fM1) hMc fM2) hMd fM2
            have ho0' := own_mapL (own_mapL (own_mapL (own_mapL (w := w6.drew) ho0 hMa hM1) hMb hM1) hMc hM2) hMd hM2
            have ho1' := own_mapL (own_mapL (own_mapL (own_mapL (w := w6.drew) ho1 hMa hM1) hMb hM1) hMc hM2) hMd hM2
            have e1 := (hMd.block M1 hD.ne).trans ((hMc.block M1 hD.ne).trans hMb.map)
            have e2 := hMd.map
            rw [← hnm] at e1 e2
            refine ⟨ls ++ [x], x.1, r, A6, c6, hN, by omega, PD.add hN.fl hr (fun k hk => ⟨by omega, by omega⟩) hD hFl hT (fun k cs t ht hk => ?_) e1 e2 hbf' hfw ho0' ho1' hne, ?_, hr6.below bA, hc6, (hB.trans (fr_below hf6 (fun j hj => by subst hj; exact hlb) z1)).trans bA⟩
            · have hkl := (Array.getElem?_eq_some_iff.1 hk).1
              refine (hxM k (fun e => ?_) (fun e => ?_) (fun e => ?_) hkl).trans hk
              · subst e
                have h1 := HB.out
                unfold Blk at h1
                rw [hk] at h1
                cases h1
                rcases ht with (h | h) | (h | h | h) <;> revert h <;> decide
              · subst e; rw [hD.m1] at hk; cases hk
              · subst e; rw [hD.m2] at hk; cases hk
            · rw [hnm, sumF_append]
              exact bld
          case measure =>
            have hq := (HA.out.2.2.2.2.1).cell 0
            rw [hsl, slLen_of hq]
            exact hrl
    · obtain rfl : b' = [] := List.eq_nil_of_length_eq_zero (by omega)
      have d1 : decide ((0 : Int) < (([] : List UInt8).length : Int)) = false := by simp
      have hL' := hL.done
      by_cases hfull : room < (sumF ls : Nat)
      · have hX : loadP room b = (none, 42) := by
          unfold loadP
          rw [if_neg (by omega), hL']
          simp only
          rw [if_pos hfull]
        have d2 : decide (room < (sumF ls : Nat)) = true := by simpa using hfull
        have HH := Lib.hid (And.intro hX hB)
        clear hX hP hBl hR hB hL hL' hfull
        go_wp2_with (go_at_call 29; refine (fault_any _ _ _ _).mono ?_; rintro e w7 ⟨⟨v, rfl, hv⟩, hb7⟩)
        go_ret2
        obtain ⟨hX, hB⟩ := HH.out
        have s1 := hB.size
        exact ⟨.inr ⟨42, v, hX, by decide, rfl, hv.mono s1⟩, hB.trans (hb7.mono s1)⟩
      · have hX : loadP room b = (some (mkP room ls), 0) := by
          unfold loadP
          rw [if_neg (by omega), hL']
          simp only
          rw [if_neg hfull]
        have d2 : decide (room < (sumF ls : Nat)) = false := by simpa using hfull
        have HH := Lib.hid (And.intro hX (And.intro hB hP))
        clear hX hP hBl hR hB hL hL' hfull
        go_wp2
        go_ret2
        obtain ⟨hX, hB, hP⟩ := HH.out
        exact ⟨.inl ⟨db, _, hX, rfl, hP.more (fun k hk => hk.1)⟩, hB⟩
theorem VLoad_some {room : Int} {y : DP} {B : Nat} (A : Option Addr) (c : Nat) (b : List UInt8) (w : World) (hB : B ≤ w.heap.size) (hrd : Reads w B 1 A b.length (bl b)) (hc : b.length ≤ c) (h9 : b.length ≤ 900000) (hy : loadP room b = (some y, 0)) :
    Calls Tryz.prog 17 #[.int .i64 room, .slice A b.length c] w fun e w' => ∃ cb, e = .returned (.tuple #[.pointer (some ⟨cb, 0, none⟩), .nilIface]) ∧ PD (fun k => w.heap.size ≤ k) w' cb y ∧ Below w.heap.size w w' := by
  obtain ⟨l, h1, h2, h3, h4, h5, h6, h7⟩ := loadP_some hy
  refine (VLoad_0 h5 (reads_mono hrd hB) hc h9).mono ?_
  rintro e w' ⟨⟨db, y', g1, rfl, g3⟩ | ⟨k, v, g1, _⟩, hb⟩
  · rw [hy] at g1
    cases g1
    exact ⟨db, rfl, g3, hb⟩
  · rw [hy] at g1
    cases g1
end Go.Proofs.YtekajggjoeimoaaGreatDoor
set_option linter.unusedVariables false
namespace Go.Proofs.YtekajggjoeimoaaGreatDoor
open Go.RowKit
open Da
theorem do_two_eq {w : World} {db cb n m B : Nat} {r r' q : DP} {x : Dd} {Ap Ak : Option Addr} {cp ck : Nat} (he : Eqv r r') (h : Two B w db cb r' q n m) (hn : n ≤ 999) (h1 : 1 ≤ B) (hB : B ≤ w.heap.size) (hg : GlobAt w) (hp : RdB B w Ap x.p.size (bvals x.p)) (hk : RdB B w Ak x.keep.length (x.keep.map (.int .i64))) (hf : Few x) (hx : -9223372036854775808 ≤ x.n ∧ x.n ≤ 9223372036854775807) :
    Calls Tryz.prog 12 #[.pointer (some ⟨db, 0, none⟩), x.val Ap cp Ak ck] w fun e w' => e = .returned (.tuple #[.int .i64 (doP r x).1, .string (doP r x).2.1]) ∧ Two B w' db cb (doP r' x).2.2 q (n + 1) m ∧ GlobAt w' ∧ Below B w w' := by
  obtain ⟨e1, e2, _⟩ := he.doP x
  have := do_two (cp := cp) (ck := ck) h hn h1 hB hg hp hk hf hx
  rw [e1, e2] at this
  exact this
theorem own_cap {w : World} {B e size n c : Nat} {A : Option Addr} {xs : List Value} (h : w.ownsRow B e size (.slice A n c) n xs) : n ≤ c := by
  rcases h.2 with ⟨h1, h2⟩ | ⟨g, cap, cur, h1, _, _, h2, _⟩
  · omega
  · simp only [Value.slice.injEq] at h1
    omega
set_option maxHeartbeats 16000000 in
set_option maxRecDepth 100000 in
theorem loads_any (A A2 : Option Addr) (c c2 : Nat) (ds ks : List Dm) (w : World) (hg : GlobAt w) (h : DeedsAt w.heap.size w A ds) (hk : DeedsAt w.heap.size w A2 ks) (hl : ds.length ≤ 9223372036854775807) (hl2 : ks.length ≤ 9223372036854775807) :
    Calls Tryz.prog 5 #[.slice A ds.length c, .slice A2 ks.length c2] w fun e w' => e = .returned (.bool true) ∧ Below w.heap.size w w' := by
  have h1 := glob_lt hg
  go_enter Tryz.func5, Tryz.ntmps5
  go_wp2_with fail
  go_at_call 7
  refine (small_any2 A c ds w (Nat.le_refl _) h hl).mono ?_
  rintro e w1 ⟨b, rfl, hb1, hsm⟩
  have hg1 := hg.below hb1
  cases b
  · clear hsm
    go_wp2_with (go_at_call 8; refine (live_any hg1).mono ?_; rintro e w2 ⟨rfl, hb2⟩)
    go_ret
    exact ⟨rfl, hb1.trans (hb2.mono hb1.size)⟩
  obtain ⟨hd, hdb⟩ := hsm rfl
  have hd1 : ds.length ≤ 80 := hd
  clear hsm hd
  go_wp2_with fail
  go_at_call 7
  refine (small_any A2 c2 ks w1 hb1.size (hk.below hb1) hl2).mono ?_
  rintro e w2 ⟨b, rfl, hb2', hsm⟩
  have hb2 : Below w.heap.size w w2 := hb1.trans (hb2'.mono hb1.size)
  have hg2 := hg.below hb2
  cases b
  · clear hsm
    go_wp2_with (go_at_call 8; refine (live_any hg2).mono ?_; rintro e w3 ⟨rfl, hb3⟩)
    go_ret
    exact ⟨rfl, hb2.trans (hb3.mono hb2.size)⟩
  obtain ⟨hd, hkb⟩ := hsm rfl
  have hd2 : ks.length ≤ 80 := hd
  have hs2 := hb2.size
  have HDS := Lib.hid (And.intro hdb h)
  have HKS := Lib.hid (And.intro hkb hk)
  clear hsm hd hdb hkb h hk hb1 hb2' hg1
  have hN := new_go w2 (room := 4096) (by omega)
  go_wp2_with (go_at_call 9; refine hN.mono ?_; rintro e w4 ⟨⟨db, rfl, hP⟩, hb4⟩)
  have hO4 := one_new (B := w.heap.size) hP hs2
  have hB4 : Below w.heap.size w w4 := hb2.trans (hb4.mono hs2)
  have hg4 := hg.below hB4
  clear hP hN hb4 hb2 hg2 hs2
  go_loopw [7] (fun i wr => Below w.heap.size w wr ∧ GlobAt wr ∧ ∃ (k : Nat) (p : DP), k ≤ ds.length ∧ i = .int .i64 k ∧ One w.heap.size wr db p k ∧ Sane p ∧ p.room = 4096) (fun i _ => ds.length - (intOf i).toNat)
  case atStart => exact ⟨hB4, hg4, 0, _, Nat.zero_le _, rfl, hO4, Sane.new _, rfl⟩
  case round =>
    clear hB4 hg4 hO4
    obtain ⟨hB, hgr, k, p, hk, rfl, hO, hS, hrm⟩ := hrel
    obtain ⟨wo, rfl⟩ : ∃ wo, wo = wr := ⟨wr, rfl⟩
    by_cases hlt : k < ds.length
    · have d1 : decide (k < ds.length) = true := by simpa using hlt
      obtain ⟨x, hdk⟩ : ∃ x, ds[k]? = some x := ⟨_, List.getElem?_eq_getElem hlt⟩
      have hfew := HDS.out.1 x (List.mem_of_getElem? hdk)
      obtain ⟨ad, rfl, hadl, hX⟩ := (HDS.out.2.below hB) k x hdk
      obtain ⟨x, Ap, cp, Ak, ck⟩ := x
      have e0 : wo.cell? (ad.add (k * 6)) = some (.int .i64 x.kind) := hX.c0
      have e1 : wo.cell? ⟨(ad.add (k * 6)).block, (ad.add (k * 6)).off + 1, none⟩ = some (.string x.a) := hX.c1
      have e2 : wo.cell? ⟨(ad.add (k * 6)).block, (ad.add (k * 6)).off + 2, none⟩ = some (.string x.b) := hX.c2
      have e3 : wo.cell? ⟨(ad.add (k * 6)).block, (ad.add (k * 6)).off + 3, none⟩ = some (.int .i64 x.n) := hX.c3
      have e4 : wo.cell? ⟨(ad.add (k * 6)).block, (ad.add (k * 6)).off + 4, none⟩ = some (.slice Ap x.p.size cp) := hX.c4
      have e5 : wo.cell? ⟨(ad.add (k * 6)).block, (ad.add (k * 6)).off + 5, none⟩ = some (.slice Ak x.keep.length ck) := hX.c5
      have hdo := do_one hO (by omega) h1 hB.size hgr hX.rp hX.rk hfew.1 hX.n (cp := cp) (ck := ck)
      have hS' := hS.doP hO.wf (x := x) hfew.2
      have hr' := (room_doP p x).trans hrm
      clear hX hfew hO hgr hS hrm
      dsimp only [Dd.val] at hdo
      go_wp2_with (go_at_call 12; refine hdo.mono ?_; rintro e w5 ⟨rfl, hO5, hg5, hb5⟩)
      go_roundw
      case rel => exact ⟨hB.trans hb5, hg5, k + 1, _, by omega, by go_num, hO5, hS', hr'⟩
      case measure => simp [intOf]; omega
    · have d1 : decide (k < ds.length) = false := by simpa using hlt
      have hwf := hO.wf
      have hld := hS.load hwf hrm
      have hsl := hS.save hwf
      go_wp2_with (first
        | (go_at_call 18; refine (save_one hO).mono ?_; rintro e w5 ⟨v5, rfl, ho5, hb5⟩; obtain ⟨A5, c5, rfl⟩ := own_formS ho5)
        | (go_at_call 17; refine (VLoad_some A5 c5 (saveP p) w5 (Nat.le_refl _) (Reads.of_own ho5) (own_cap ho5) hsl hld).mono ?_; rintro e w6 ⟨cb, rfl, hP6, hb6⟩; have hT6 := two_new (hO.below hb5) (Nat.le_trans hB.size hb5.size) hP6 (fun e => by cases e) (m := 80) ⟨by show (0 : Int) ≤ _; omega, by simp [mkP], by simp [mkP], by show ((flOf p).map (·.2)).length ≤ 80; have := (FlOK.of_disk hwf).len; rw [List.length_map]; omega⟩ hb6; have hB6 : Below w.heap.size w w6 := (hB.trans (hb5.mono hB.size)).trans (hb6.mono (Nat.le_trans hB.size hb5.size)); have hg6 := hg.below hB6)
        | (go_at_call 19; refine (crash_two hT6 (by omega) h1 hB6.size hg6).mono ?_; rintro e w7 ⟨rfl, hT7, hg7, hb7⟩))
      have hB7 : Below w.heap.size w w7 := hB6.trans hb7
      have hi : ((crashP p 0 []).dir.map (·.id)).Nodup := by
        rw [crash_0]
        exact ((List.nodup_append.1 hS.ids).1)
      have hT8 := hT7.renum rfl rfl rfl hi (n' := 80) (by omega)
      rw [flOf_crash, show (crashP p 0 []).room = 4096 from hrm] at hT8
      obtain ⟨ga, gc, hgc⟩ : ∃ ga gc, ghost (mkP 4096 (flOf p)) (crashP p 0 []).after (crashP p 0 []).code = ghost (mkP 4096 (flOf p)) ga gc := ⟨_, _, rfl⟩
      rw [hgc] at hT8
      have hE : Eqv (mkP 4096 (flOf p)) (ghost (mkP 4096 (flOf p)) ga gc) := ⟨rfl, ga, gc, rfl, fun h => by cases h⟩
      clear hgc hT7 hT6 hi hO hS hrm hwf hld hsl ho5 hP6 hb5 hb6 hB hgr hk hlt d1 hB6 hg6
      go_loopw [10, 11, 12, 13, 14] (fun i _ _ _ _ wr => Below w.heap.size w wr ∧ GlobAt wr ∧ ∃ (k : Nat) (r r' : DP), k ≤ ks.length ∧ i = .int .i64 k ∧ Two w.heap.size wr db cb r' r (80 + k) (80 + k) ∧ Eqv r r') (fun i _ _ _ _ _ => ks.length - (intOf i).toNat)
      case atStart => exact ⟨hB7, hg7, 0, _, _, Nat.zero_le _, rfl, hT8, hE⟩
      case round =>
        clear hB7 hg7 hT8 hE
        obtain ⟨hB, hgr, k, r, r', hk, rfl, hT, hE⟩ := hrel
        obtain ⟨wo, rfl⟩ : ∃ wo, wo = wr := ⟨wr, rfl⟩
        by_cases hlt : k < ks.length
        · have d1 : decide (k < ks.length) = true := by simpa using hlt
          obtain ⟨x, hdk⟩ : ∃ x, ks[k]? = some x := ⟨_, List.getElem?_eq_getElem hlt⟩
          have hfew := HKS.out.1 x (List.mem_of_getElem? hdk)
          obtain ⟨ad, rfl, hadl, hX⟩ := (HKS.out.2.below hB) k x hdk
          obtain ⟨x, Ap, cp, Ak, ck⟩ := x
          have e0 : wo.cell? (ad.add (k * 6)) = some (.int .i64 x.kind) := hX.c0
          have e1 : wo.cell? ⟨(ad.add (k * 6)).block, (ad.add (k * 6)).off + 1, none⟩ = some (.string x.a) := hX.c1
          have e2 : wo.cell? ⟨(ad.add (k * 6)).block, (ad.add (k * 6)).off + 2, none⟩ = some (.string x.b) := hX.c2
          have e3 : wo.cell? ⟨(ad.add (k * 6)).block, (ad.add (k * 6)).off + 3, none⟩ = some (.int .i64 x.n) := hX.c3
          have e4 : wo.cell? ⟨(ad.add (k * 6)).block, (ad.add (k * 6)).off + 4, none⟩ = some (.slice Ap x.p.size cp) := hX.c4
          have e5 : wo.cell? ⟨(ad.add (k * 6)).block, (ad.add (k * 6)).off + 5, none⟩ = some (.slice Ak x.keep.length ck) := hX.c5
          have hadk : (ad.add (k * 6)).block < w.heap.size := by rw [add_block]; exact hadl
          have hdo := do_two hT.swap (by omega) h1 hB.size hgr hX.rp hX.rk hfew hX.n (cp := cp) (ck := ck)
          have hd2 : ∀ W, Below w.heap.size wo W → Two w.heap.size W cb db (doP r x).2.2 r' (80 + k + 1) (80 + k) → GlobAt W → _ := fun W hb hM hg => do_two_eq (cp := cp) (ck := ck) hE hM.swap (by omega) h1 (Nat.le_trans hB.size hb.size |> fun h => h) hg (hX.below hb hadk).rp (hX.below hb hadk).rk hfew hX.n
          have hsd : ((doP r x).2.1.toList != (doP r x).2.1.toList) = false := by simp [bne, tl_eq]
          have hE' := (hE.doP x).2.2
          have HX := Lib.hid (And.intro hX (And.intro hadk (And.intro hd2 (And.intro hB hE'))))
          clear hX hfew hT hgr hd2 hB hE hE'
          dsimp only [Dd.val] at hdo
          go_wp2_with (first
            | (go_at_call 12; refine hdo.mono ?_; rintro e w2 ⟨rfl, hM, hg2, hb2⟩; clear hdo; have g0 : w2.cell? (ad.add (k * 6)) = some (.int .i64 x.kind) := (HX.out.1.below hb2 HX.out.2.1).c0; have g1 : w2.cell? ⟨(ad.add (k * 6)).block, (ad.add (k * 6)).off + 1, none⟩ = some (.string x.a) := (HX.out.1.below hb2 HX.out.2.1).c1; have g2 : w2.cell? ⟨(ad.add (k * 6)).block, (ad.add (k * 6)).off + 2, none⟩ = some (.string x.b) := (HX.out.1.below hb2 HX.out.2.1).c2; have g3 : w2.cell? ⟨(ad.add (k * 6)).block, (ad.add (k * 6)).off + 3, none⟩ = some (.int .i64 x.n) := (HX.out.1.below hb2 HX.out.2.1).c3; have g4 : w2.cell? ⟨(ad.add (k * 6)).block, (ad.add (k * 6)).off + 4, none⟩ = some (.slice Ap x.p.size cp) := (HX.out.1.below hb2 HX.out.2.1).c4; have g5 : w2.cell? ⟨(ad.add (k * 6)).block, (ad.add (k * 6)).off + 5, none⟩ = some (.slice Ak x.keep.length ck) := (HX.out.1.below hb2 HX.out.2.1).c5)
            | (go_at_call 12; refine (HX.out.2.2.1 _ hb2 hM hg2).mono ?_; rintro e w3 ⟨rfl, hT3, hg3, hb3⟩))
          go_roundw
          case rel => exact ⟨(HX.out.2.2.2.1.trans hb2).trans hb3, hg3, k + 1, _, _, by omega, by go_num, hT3, HX.out.2.2.2.2⟩
          case measure => simp [intOf]; omega
        · have d1 : decide (k < ks.length) = false := by simpa using hlt
          have hsv := hE.save
          have hbd : Below wo.heap.size wo wo.drew := (Below.refl _ wo).drew
          have hT1 := hT.below hbd
          have hS1 := save_one hT1.swap.fst
          obtain ⟨s, hs⟩ : ∃ s : ByteArray, (⟨(saveP r).toArray⟩ : ByteArray) = s := ⟨_, rfl⟩
          have hss : (s.toList == s.toList) = true := by simp
          have hBd := hB.trans (hbd.mono hB.size)
          have HT := Lib.hid (And.intro hT1 (And.intro hBd hs))
          clear hE hT hd1 hd2 hT1 hBd
          go_wp2_with fail
          refine regionE 10 (fun _ => True) (by kernel_rfl) (by kernel_rfl) (by kernel_rfl) (by kernel_rfl) (by kernel_rfl) (trivial) (fun hHeld hTl => ?_)
          refine takeE 0 (v := ?_) hTl rfl (by decide) (by kernel_rfl) (by kernel_rfl) (fun _ _ _ h => h) hHeld (Or.inl ⟨by rfl, ?_⟩) (fun hTl => ?_)
          rotate_left
          · intro w hSw; (try dsimp only at hSw); go_simp
            all_goals with_reducible rfl
          try simp only [Act.put, List.setIfInBounds_toArray, List.set_cons_zero, List.set_cons_succ]
          refine takeE 3 (v := ?_) hTl rfl (by decide) (by kernel_rfl) (by kernel_rfl) (fun _ _ _ h => h) hHeld (Or.inl ⟨by rfl, ?_⟩) (fun hTl => ?_)
          rotate_left
          · intro w hSw; (try dsimp only at hSw); go_simp
            all_goals with_reducible rfl
          try simp only [Act.put, List.setIfInBounds_toArray, List.set_cons_zero, List.set_cons_succ]
          have hTl2 := hTl.step 1 (by kernel_rfl) (by decide)
          clear hTl
          refine oneE 1 rfl (by kernel_rfl) (fun K hK => ?_)
          refine step_callC rfl 18 _ (by go_simp) hS1 ?_
          rintro e w7 ⟨v7, e7, ho7, hb7⟩; subst e7; obtain ⟨A7, c7, rfl⟩ := own_formS ho7; refine ⟨_, rfl, ?_⟩
          refine hK.out _ _ (fun _ => trivial) ?_
          clear hK K
          try simp only [Act.put, List.setIfInBounds_toArray, List.set_cons_zero, List.set_cons_succ]
          have hTl := hTl2
          clear hTl2
          have hk7 : ∀ W, Below w7.heap.size w7 W → (convert 36 9 (.slice A7 (saveP r).length c7)).run Tryz.prog W = .ok (.string s) W := fun W hW => by rw [← hs]; exact own_str8 rfl (own_keep ho7 hW) Tryz.underlying9
          have hc7 := hk7 w7 (Below.refl _ _)
          refine wpAnyE_mono (S' := fun W => (convert 36 9 (.slice A7 (saveP r).length c7)).run Tryz.prog W = .ok (.string s) W) (fun _ _ => trivial) _ _ _ _ ?_
          have hHeld := hc7
          refine takeE 2 (v := ?_) hTl rfl (by decide) (by kernel_rfl) (by kernel_rfl) (fun _ _ _ h => h) hHeld (Or.inl ⟨by rfl, ?_⟩) (fun hTl => ?_)
          rotate_left
          · intro w hSw; (try dsimp only at hSw); go_simp
            all_goals with_reducible rfl
          try simp only [Act.put, List.setIfInBounds_toArray, List.set_cons_zero, List.set_cons_succ]
          clear hTl
          have hS2 := save_one (HT.out.1.below hb7).fst
          rw [hsv] at hS2
          refine oneE 4 rfl (by kernel_rfl) (fun K hK => ?_)
          refine step_callC rfl 18 _ (by go_simp) hS2 ?_
          rintro e w8 ⟨v8, e8, ho8, hb8⟩; subst e8; obtain ⟨A8, c8, rfl⟩ := own_formS ho8; refine ⟨_, rfl, ?_⟩
          refine hK.out _ _ (fun _ => hk7 w8 hb8) ?_
          clear hK K
          try simp only [Act.put, List.setIfInBounds_toArray, List.set_cons_zero, List.set_cons_succ]
          have hc8 : (convert 36 9 (.slice A8 (saveP r).length c8)).run Tryz.prog w8 = .ok (.string s) w8 := by rw [← hs]; exact own_str8 rfl ho8 Tryz.underlying9
          have hb78 : Below w.heap.size w w8 := (HT.out.2.1.trans (hb7.mono HT.out.2.1.size)).trans (hb8.mono (Nat.le_trans HT.out.2.1.size hb7.size))
          have hl8 := live_any (hg.below hb78)
          refine oneE 5 rfl (by kernel_rfl) (fun K hK => ?_)
          go_simp
          refine hK.out _ _ (fun _ => hk7 w8 hb8) ?_
          clear hK K
          try simp only [Act.put, List.setIfInBounds_toArray, List.set_cons_zero, List.set_cons_succ]
          refine oneE 6 rfl (by kernel_rfl) (fun K hK => ?_)
          go_simp
          refine hK.out _ _ (fun _ => hk7 w8 hb8) ?_
          clear hK K
          try simp only [Act.put, List.setIfInBounds_toArray, List.set_cons_zero, List.set_cons_succ]
          refine oneE 7 rfl (by kernel_rfl) (fun K hK => ?_)
          go_simp
          refine hK.out _ _ (fun _ => hk7 w8 hb8) ?_
          clear hK K
          try simp only [Act.put, List.setIfInBounds_toArray, List.set_cons_zero, List.set_cons_succ]
          refine oneE 8 rfl (by kernel_rfl) (fun K hK => ?_)
          refine step_callW (by first | rfl | (simp [Region.wanted, yielded])) 8 _ (by go_simp) hl8 ?_
          rintro e w9 ⟨e9, hb9⟩; subst e9; refine ⟨_, rfl, ?_⟩
          refine hK.out _ _ (fun _ => hk7 w9 (hb8.trans (hb9.mono hb8.size))) ?_
          clear hK K
          try simp only [Act.put, List.setIfInBounds_toArray, List.set_cons_zero, List.set_cons_succ]
          refine oneE 9 rfl (by kernel_rfl) (fun K hK => ?_)
          go_simp
          refine hK.out _ _ (fun _ => hk7 w9 (hb8.trans (hb9.mono hb8.size))) ?_
          clear hK K
          try simp only [Act.put, List.setIfInBounds_toArray, List.set_cons_zero, List.set_cons_succ]
          refine oneE 10 rfl (by kernel_rfl) (fun K hK => ?_)
          go_simp
          refine hK.out _ _ (fun h => absurd h (by decide)) ?_
          clear hK K
          try simp only [Act.put, List.setIfInBounds_toArray, List.set_cons_zero, List.set_cons_succ]
          refine doneE (by kernel_rfl) ?_ _
          go_wp2
          go_ret
          exact ⟨rfl, hb78.trans (hb9.mono hb78.size)⟩
end Go.Proofs.YtekajggjoeimoaaGreatDoor
