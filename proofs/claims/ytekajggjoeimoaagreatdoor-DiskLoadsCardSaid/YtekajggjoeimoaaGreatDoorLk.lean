/- The document's disk, walked: keep, Sync. The document's disk, walked: Crash. The disk's names, sorted: slices.Sorted(maps.Keys(d.now)), by the shelf's contracts. The document's disk, walked: Names. model, walked. A disk with the one file a: what each call of DiskSafe's leaves. Both disks, made. -/
import Derived.Test.YtekajggjoeimoaaGreatDoorLj
import Derived.Test.YtekajggjoeimoaaGreatDoorLi
import Derived.Test.YtekajggjoeimoaaGreatDoorLg
set_option linter.unusedVariables false
namespace Go.Proofs.YtekajggjoeimoaaGreatDoor
open Go.RowKit
section
variable {X X' : Nat → Prop} {w w' w1 w2 w3 : World} {rb : Nat} {vd vc vf vw : Value} {V : Nat → Value} {L : Nat → List (ByteArray × Value)} {W : List (PW × Value)} {nx : Int} {p : DP}
theorem RefV.off (h : RefV X w rb vd vc vf vw V L W p) (hX : ∀ k, X k → w3.heap[k]? = w.heap[k]?) (hk : KB w w3) : RefV X w3 rb vd vc vf vw V L W p :=
  h.keep (fun _ h => h) (fun k cs t _ hx hk => (hX k hx).trans hk) hk
def restW (i : Nat) (l : List (PW × Value)) : List (PW × Value) := l.filter fun y => decide (y.1.id ≠ i)
def SyncR (X : Nat → Prop) (w w2 : World) (rb : Nat) (vd vc vf vw : Value) (V : Nat → Value) (W : List (PW × Value)) (q : DP) (i : Nat) (rest k : Value) (wr : World) : Prop :=
  ∃ j A c L, j ≤ W.length ∧ k = .int .i64 j ∧ rest = .slice A (restW i (W.take j)).length c ∧ RowX (fun k => w2.heap.size ≤ k ∧ k < wr.heap.size) wr 165 3 rest (restW i (W.take j)).length (pwcells (restW i (W.take j))) ∧
    RefV X wr rb vd vc vf vw V L W { q with files := q.files.set i ((q.wrs.take j).foldl (putW i) (q.file i)) } ∧ Fr X w wr ∧ w2.heap.size ≤ wr.heap.size
end
end Go.Proofs.YtekajggjoeimoaaGreatDoor
set_option linter.unusedVariables false
namespace Go.Proofs.YtekajggjoeimoaaGreatDoor
open Go.RowKit
section
variable {X X' : Nat → Prop} {w w' w1 w2 w3 : World} {rb : Nat} {vd vc vf vw : Value} {V : Nat → Value} {L : Nat → List (ByteArray × Value)} {W : List (PW × Value)} {nx : Int} {p : DP}
def CrR1 (X : Nat → Prop) (w : World) (rb : Nat) (vc vf vw : Value) (V : Nat → Value) (L : Nat → List (ByteArray × Value)) (W : List (PW × Value)) (p : DP) (changes : Int) (k : Value) (wr : World) : Prop :=
  ∃ j A c, j ≤ p.chs.length ∧ j ≤ changes.toNat ∧ k = .int .i64 j ∧ RefV (More X w) wr rb (.slice A ((p.chs.take j).foldl turnP p.dir).length c) vc vf vw V L W { p with dir := (p.chs.take j).foldl turnP p.dir } ∧ Fr X w wr
def anyK (ks : List Int) (j k : Nat) : Bool := (ks.take k).any fun x => x == (j : Int)
def CrR2 (X : Nat → Prop) (w : World) (rb : Nat) (vd vf vw : Value) (V : Nat → Value) (W : List (PW × Value)) (p : DP) (ks : List Int) (k : Value) (wr : World) : Prop :=
  ∃ j L, j ≤ p.wrs.length ∧ k = .int .i64 j ∧ RefV (More X w) wr rb vd (.slice none 0 0) vf vw V L W { p with files := crashW ks 0 (p.wrs.take j) p.files } ∧ Fr X w wr
end
end Go.Proofs.YtekajggjoeimoaaGreatDoor
set_option linter.unusedVariables false
namespace Go.Proofs
open Go.RowKit Go.Maps Go.Sort Go.Shelf
theorem Tryz.sortsA (m : Nat) : AnyZ.SortsIn Tryz.prog Tryz.sortedA_ren Fence.wide m :=
  ⟨fun blk off cap ss W hH hblk hsz => callsIn_wide.2 (AnyM.slices_Sort_string Tryz.sortA blk off cap ss W hH hblk hsz),
   fun p cap W => callsIn_wide.2 (AnyM.slices_Sort_string_none Tryz.sortA p cap W)⟩
namespace YtekajggjoeimoaaGreatDoor
open Go.WideElems (Fit rd rg)
def Rv : Value → Option (DataW Unit × List MemPlace) := fun _ => some (.nil, [])
theorem rd_ent {x : DE} (h : x.nm.size ≤ maxLen) : rd Tryz.prog 9 Rv x.ent = some (.string x.nm.data.toList, .nil) := by
  have hk : keyOf Tryz.prog 9 (.string x.nm) = some (.string x.nm.data.toList) := by simp [keyOf, mapKey, Tryz.underlying9]; exact h
  exact WideElems.rd_mk (yv := (.nil, [])) hk rfl
theorem own_map {w : World} {M ck : Nat} {l : List DE} (hM : w.heap[M]? = some (.map (l.map DE.ent).toArray ck)) (ho : MapOK l ck) (hn : ∀ x ∈ l, x.nm.size ≤ 1000) (hl : l.length ≤ 64) :
    w.ownsMap Tryz.prog 9 Rv M l.length (.map (((l.map DE.ent).map (rg Tryz.prog 9 Rv)).foldr DataW.insert [])) := by
  refine ⟨_, ck, hM, ⟨by simp [maxLen]; omega, ⟨?_, ?_, ?_⟩, ?_⟩, by simp, rfl⟩
  · intro x hx
    simp only [List.mem_map] at hx
    obtain ⟨y, hy, rfl⟩ := hx
    exact ho.born y hy
  · simp only [List.map_map, List.Nodup, List.pairwise_map]
    exact ho.order.imp fun hlt => Nat.ne_of_lt hlt
  · have := ho.nodup
    simp only [List.map_map, List.Nodup, List.pairwise_map] at this ⊢
    exact this.imp fun hne e => hne (by simpa [DE.ent] using e)
  · intro x hx
    simp only [List.mem_map] at hx
    obtain ⟨y, hy, rfl⟩ := hx
    have := hn y hy
    exact ⟨_, rd_ent (by simp only [maxLen]; omega)⟩
/-- A directory's names, sorted. -/
def sN (d : List En) : List (List UInt8) := (d.map fun e => e.nm.data.toList).mergeSort leB
theorem keys_map {l : List DE} {d : List En} {fb : Nat → Nat} (hp : (l.map fun x => (x.nm, x.f)).Perm (d.map fun e => (e.nm, fb e.id))) (hn : ∀ x ∈ l, x.nm.size ≤ 1000) {ss : List (List UInt8)} (hs : ss.Perm (strKeys (.map (((l.map DE.ent).map (rg Tryz.prog 9 Rv)).foldr DataW.insert [])))) :
    ss.mergeSort leB = sN d := by
  unfold sN
  refine mergeSort_of_perm (hs.trans ?_)
  refine ((WideShapes.sorted_perm _).map _).trans ?_
  have e1 : (((l.map DE.ent).map (rg Tryz.prog 9 Rv)).map fun p => strOf p.1) = (l.map fun x => (x.nm, x.f)).map fun y => y.1.data.toList := by
    simp only [List.map_map]
    refine List.map_congr_left fun x hx => ?_
    have := hn x hx
    simp only [Function.comp, rg, rd_ent (x := x) (by simp only [maxLen]; omega), Option.getD]
    rfl
  have e2 : (d.map fun e => e.nm.data.toList) = (d.map fun e => (e.nm, fb e.id)).map fun y => y.1.data.toList := by simp [List.map_map, Function.comp_def]
  rw [e2]
  exact (List.Perm.of_eq e1).trans (hp.map _)
theorem keys_any (M : Nat) (w : World) : Calls Tryz.prog 56 #[.map (some M)] w fun e w' => e = .returned (.func (.func 96) #[] #[.pointer (some ⟨w.heap.size, 0, none⟩)]) ∧ w' = w.alloc (.cells #[.map (some M)] 62) :=
  (callsIn_wide (n := 5)).1 (AnyZ.keys_in Tryz.keysA Fence.wide 5 trivial rfl (some M) w)
theorem sorted_any {w : World} {M ck : Nat} {l : List DE} {d : List En} {fb : Nat → Nat} (hM : w.heap[M]? = some (.map (l.map DE.ent).toArray ck)) (ho : MapOK l ck) (hn : ∀ x ∈ l, x.nm.size ≤ 1000) (hl : l.length ≤ 64)
    (hp : (l.map fun x => (x.nm, x.f)).Perm (d.map fun e => (e.nm, fb e.id))) :
    Calls Tryz.prog 55 #[.func (.func 96) #[] #[.pointer (some ⟨w.heap.size, 0, none⟩)]] (w.alloc (.cells #[.map (some M)] 62)) fun e w' =>
      ∃ v, e = .returned v ∧ w'.ownsRow w.heap.size 9 1 v (sN d).length ((sN d).map encStr) ∧ Below w.heap.size w w' := by
  have hown := own_map hM ho hn hl
  have hbl := hown.lt
  have hsz : Maps.size (.map (((l.map DE.ent).map (rg Tryz.prog 9 Rv)).foldr DataW.insert [])) = l.length := by
    simp [Maps.size, (WideShapes.sorted_perm _).length_eq]
  have hseq : SeqGives Fence.wide 2 Tryz.prog 96 #[.pointer (some ⟨w.heap.size, 0, none⟩)] encStr (fun ss => ss.Perm (strKeys (.map (((l.map DE.ent).map (rg Tryz.prog 9 Rv)).foldr DataW.insert [])))) (Maps.size (.map (((l.map DE.ent).map (rg Tryz.prog 9 Rv)).foldr DataW.insert []))) (w.alloc (.cells #[.map (some M)] 62)) :=
    AnyZ.keys_gives (ρ := Tryz.keysA_ren) { Tryz.keysA with } Fence.wide _ trivial rfl (by omega) w.heap.size M l.length _ _ (by simp) (by simp) (by
      obtain ⟨es, clock, hb, Ft, hs, hD⟩ := hown
      exact ⟨es, clock, (Below.heap_alloc _ _ M hbl).trans hb, Ft, hs, hD⟩)
  have cS := AnyZ.sorted_in Tryz.sortedA Fence.wide 5 trivial trivial trivial trivial rfl (by omega) (Tryz.sortsA _) (enters_of Tryz.func95 (by kernel_rfl) rfl) 96 #[.pointer (some ⟨w.heap.size, 0, none⟩)] trivial (enters_of Tryz.func96 (by kernel_rfl) rfl) _ _ (by rw [hsz]; simp [maxLen]; omega) (by rw [hsz]; omega) _ hseq
  change CallsIn _ _ Tryz.prog 55 _ _ _ at cS
  refine ((callsIn_wide).1 cS).mono ?_
  rintro e w' ⟨v, ss, rfl, hS, hrow, hnil, hb⟩
  have hk := keys_map hp hn hS
  have hlen : ss.length = (sN d).length := by rw [← hk]; simp
  refine ⟨v, rfl, ?_, ((Below.refl _ w).alloc (Nat.le_refl _) _).trans (hb.mono (by simp))⟩
  have h3 : w'.ownsRow w.heap.size 9 1 v ss.length ((ss.mergeSort fun x y => decide (x ≤ y)).map encStr) := ownsRow_base_a hrow (base' := w.heap.size) (by simp)
  have hk' : (ss.mergeSort fun x y => decide (x ≤ y)) = sN d := hk
  rw [hk', hlen] at h3
  exact h3
section
variable {X : Nat → Prop} {w : World} {db : Nat} {p : DP}
theorem nameOK_size {s : ByteArray} (h : nameOK s = true) : s.size ≤ 16 := by
  unfold nameOK at h
  simp only [Bool.and_eq_true, decide_eq_true_eq] at h
  exact h.1.2
set_option maxHeartbeats 1000000 in
set_option maxRecDepth 100000 in
theorem pd_names (h : PD X w db p) :
    Calls Tryz.prog 45 #[.pointer (some ⟨db, 0, none⟩)] w fun e w' => ∃ v, e = .returned v ∧ w'.ownsRow w.heap.size 9 1 v (sN p.now).length ((sN p.now).map encStr) ∧ Below w.heap.size w w' := by
  obtain ⟨M1, M2, v3, v4, q, fs, V, C, fb, hD, hF, ht⟩ := h
  have c2 : w.cell? ⟨db, 2, none⟩ = some (.map (some M2)) := hD.blk.cell 2
  have hS := sorted_any hD.m2 ht.ok2 (fun x hx => by
    obtain ⟨e, he, e1, _⟩ := ht.f_of hx
    rw [e1]
    have := nameOK_size (ht.wf.now.name e he)
    omega) (by have := ht.now8; omega) ht.permN
  have HS := Lib.hid hS
  clear hS
  go_enter Tryz.func45, Tryz.ntmps45
  go_wp2_with (first
    | (go_at_call 56; refine (keys_any M2 w).mono ?_; rintro e w1 ⟨rfl, rfl⟩)
    | (go_at_call 55; refine HS.out.mono ?_; rintro e w9 ⟨v, rfl, ho, hb⟩))
  go_ret
  exact ⟨v, rfl, ho, hb⟩
end
end YtekajggjoeimoaaGreatDoor
end Go.Proofs
set_option linter.unusedVariables false
namespace Go.Proofs.YtekajggjoeimoaaGreatDoor
open Go.RowKit
theorem sN_perm (D : List En) : (sN D).Perm (D.map fun e => e.nm.data.toList) := List.mergeSort_perm _ _
theorem sN_len (D : List En) : (sN D).length = D.length := by rw [(sN_perm D).length_eq]; simp
theorem nm_inj {a b : ByteArray} (h : a.data.toList = b.data.toList) : a = b := Go.WideShapes.bytes_inj h
theorem nms_nodup {D : List En} (hn : (names D).Nodup) : (D.map fun e => e.nm.data.toList).Nodup := by
  unfold names List.Nodup at hn
  unfold List.Nodup
  rw [List.pairwise_map] at hn ⊢
  exact hn.imp fun h e => h (nm_inj e)
theorem sN_pw {D : List En} (hn : (names D).Nodup) : (sN D).Pairwise fun a b => a ≤ b ∧ a ≠ b := by
  have tr : ∀ a b c : List UInt8, leB a b = true → leB b c = true → leB a c = true := fun a b c h1 h2 => by simp only [leB, decide_eq_true_eq] at *; exact List.le_trans h1 h2
  have to : ∀ a b : List UInt8, (leB a b || leB b a) = true := fun a b => by simp only [leB, Bool.or_eq_true, decide_eq_true_eq]; exact List.le_total a b
  have h1 := List.pairwise_mergeSort tr to (D.map fun e => e.nm.data.toList)
  have h2 : (sN D).Nodup := (sN_perm D).nodup_iff.2 (nms_nodup hn)
  exact (h1.and h2).imp fun h => ⟨by simpa [leB] using h.1, h.2⟩
theorem sN_min {D : List En} (hn : (names D).Nodup) {j : Nat} (hj : j < (sN D).length) {x : List UInt8} (hx : x ∈ sN D) (hxj : x ∉ (sN D).take j) : (sN D)[j] ≤ x := by
  obtain ⟨k, hk, rfl⟩ := List.getElem_of_mem hx
  by_cases h1 : k < j
  · exact absurd (List.mem_take_iff_getElem.2 ⟨k, by omega, rfl⟩) hxj
  · by_cases h2 : j = k
    · subst h2; exact List.le_refl _
    · exact (List.pairwise_iff_getElem.1 (sN_pw hn) j k hj hk (by omega)).1
theorem sN_fresh {D : List En} (hn : (names D).Nodup) {j : Nat} (hj : j < (sN D).length) : (sN D)[j] ∉ (sN D).take j := by
  intro h
  obtain ⟨k, hk, e⟩ := List.mem_take_iff_getElem.1 h
  exact (List.pairwise_iff_getElem.1 (sN_pw hn) k j (by omega) hj (by omega)).2 e
/-- The least of the names that are not out yet. -/
def BestR (D : List En) (j i : Nat) (b : ByteArray) : Prop :=
  (b = ByteArray.empty ∧ ∀ k (e : En), k < i → D[k]? = some e → e.nm.data.toList ∈ (sN D).take j) ∨
  (∃ k e, k < i ∧ D[k]? = some e ∧ b = e.nm ∧ b.data.toList ∉ (sN D).take j ∧ ∀ k' (e' : En), k' < i → D[k']? = some e' → e'.nm.data.toList ∉ (sN D).take j → b.data.toList ≤ e'.nm.data.toList)
theorem BestR.done {D : List En} (hn : (names D).Nodup) {j : Nat} (hj : j < (sN D).length) {b : ByteArray} (h : BestR D j D.length b) : b.data.toList = (sN D)[j] := by
  have hm := (sN_perm D).mem_iff.1 (List.getElem_mem hj)
  obtain ⟨e, he, hee⟩ := List.mem_map.1 hm
  obtain ⟨k, hk, hke⟩ := List.getElem_of_mem he
  have hk' : D[k]? = some e := by rw [List.getElem?_eq_getElem hk, hke]
  have hf := sN_fresh hn hj
  rcases h with ⟨_, h2⟩ | ⟨k1, e1, h1, h2, rfl, h4, h5⟩
  · have := h2 k e hk hk'
    rw [hee] at this
    exact absurd this hf
  · have h6 := h5 k e hk hk' (by rw [hee]; exact hf)
    rw [hee] at h6
    have h7 : e1.nm.data.toList ∈ sN D := (sN_perm D).mem_iff.2 (List.mem_map.2 ⟨e1, List.mem_of_getElem? h2, rfl⟩)
    exact List.le_antisymm h6 (sN_min hn hj h7 h4)
theorem BestR.skip {D : List En} {j i : Nat} {b : ByteArray} {e : En} (h : BestR D j i b) (he : D[i]? = some e) (hm : e.nm.data.toList ∈ (sN D).take j) : BestR D j (i + 1) b := by
  rcases h with ⟨h1, h2⟩ | ⟨k1, e1, h1, h2, h3, h4, h5⟩
  · refine .inl ⟨h1, fun k e' hk hke => ?_⟩
    by_cases hi : k = i
    · subst hi; rw [he] at hke; cases hke; exact hm
    · exact h2 k e' (by omega) hke
  · refine .inr ⟨k1, e1, by omega, h2, h3, h4, fun k' e' hk hke hf => ?_⟩
    by_cases hi : k' = i
    · subst hi; rw [he] at hke; cases hke; exact absurd hm hf
    · exact h5 k' e' (by omega) hke hf
theorem BestR.take {D : List En} {j i : Nat} {b : ByteArray} {e : En} (h : BestR D j i b) (he : D[i]? = some e) (hm : e.nm.data.toList ∉ (sN D).take j) (hb : b = ByteArray.empty ∨ e.nm.data.toList ≤ b.data.toList) (hne : ∀ e ∈ D, e.nm ≠ ByteArray.empty) : BestR D j (i + 1) e.nm := by
  refine .inr ⟨i, e, by omega, he, rfl, hm, fun k' e' hk hke hf => ?_⟩
  by_cases hi : k' = i
  · subst hi; rw [he] at hke; cases hke; exact List.le_refl _
  · rcases h with ⟨h1, h2⟩ | ⟨k1, e1, h1, h2, h3, h4, h5⟩
    · exact absurd (h2 k' e' (by omega) hke) hf
    · rcases hb with hb | hb
      · rw [h3] at hb; exact absurd hb (hne e1 (List.mem_of_getElem? h2))
      · exact List.le_trans hb (h5 k' e' (by omega) hke hf)
theorem BestR.stay {D : List En} {j i : Nat} {b : ByteArray} {e : En} (h : BestR D j i b) (he : D[i]? = some e) (hb0 : b ≠ ByteArray.empty) (hb : b.data.toList ≤ e.nm.data.toList) : BestR D j (i + 1) b := by
  rcases h with ⟨h1, h2⟩ | ⟨k1, e1, h1, h2, h3, h4, h5⟩
  · exact absurd h1 hb0
  · refine .inr ⟨k1, e1, by omega, h2, h3, h4, fun k' e' hk hke hf => ?_⟩
    by_cases hi : k' = i
    · subst hi; rw [he] at hke; cases hke; exact hb
    · exact h5 k' e' (by omega) hke hf
def bN (D : List En) : List ByteArray := (sN D).map fun x => ⟨x.toArray⟩
theorem bN_val (D : List En) : (sN D).map encStr = strs (bN D) := by simp [bN, strs, encStr]
def freshK (D : List En) (s : ByteArray) (m : Nat) : Bool := !((bN D).take m).any fun b => decide (b = s)
theorem freshK_succ {D : List En} {s : ByteArray} {m : Nat} {b : ByteArray} (hb : (bN D)[m]? = some b) : freshK D s (m + 1) = (freshK D s m && !decide (b = s)) := by
  unfold freshK
  rw [List.take_add_one, hb, List.any_append]; simp
theorem freshK_all (D : List En) (s : ByteArray) (m : Nat) : freshK D s m = decide (s.data.toList ∉ (sN D).take m) := by
  unfold freshK bN
  rw [Bool.eq_iff_iff, Bool.not_eq_true', decide_eq_true_eq, ← Bool.not_eq_true, List.any_eq_true]
  refine not_congr ⟨?_, ?_⟩
  · rintro ⟨b, hb, e⟩
    rw [← List.map_take] at hb
    obtain ⟨y, hy, rfl⟩ := List.mem_map.1 hb
    have e2 : (⟨y.toArray⟩ : ByteArray) = s := by simpa using e
    rw [← e2]
    simpa using hy
  · intro h
    refine ⟨s, ?_, by simp⟩
    rw [← List.map_take]
    exact List.mem_map.2 ⟨_, h, by simp⟩
theorem out_cell {w : World} {A : Option Addr} {B j c : Nat} {bs : List ByteArray} (ho : w.ownsRow B 9 1 (.slice A j c) j (strs bs)) (h0 : 0 < j) : ∃ g, A = some ⟨g, 0, none⟩ ∧ B ≤ g ∧ g < w.heap.size ∧ ∀ W, Below w.heap.size w W → ∀ (m : Nat) (b : ByteArray), bs[m]? = some b → W.cell? ⟨g, m, none⟩ = some (.string b) := by
  rcases ho.2 with ⟨_, h1⟩ | ⟨g, cap, cur, h1, h2, h3, h4, h5, h6, h7⟩
  · omega
  · simp only [Value.slice.injEq] at h1
    have hb : Blk w g 9 cur := h3
    refine ⟨g, h1.1, h2, hb.lt, fun W hW m b hm => ?_⟩
    refine (hW.cell (p := ⟨g, m, none⟩) hb.lt).trans ((hb.cell m).trans ?_)
    have : (strs bs)[m]? = some (.string b) := by unfold strs; rw [List.getElem?_map, hm]; rfl
    rw [← h7, List.getElem?_take] at this
    split at this
    · simpa using this
    · cases this
theorem em_true {b : ByteArray} (h : b = ByteArray.empty) : b.toList.isEmpty = true := List.isEmpty_iff.2 ((toList_nil_iff_emptyBytes b).2 h)
theorem em_false {b : ByteArray} (h : b ≠ ByteArray.empty) : b.toList.isEmpty = false := by
  cases e : b.toList.isEmpty with
  | false => rfl
  | true => exact absurd ((toList_nil_iff_emptyBytes b).1 (List.isEmpty_iff.1 e)) h
def slen : Value → Nat
  | .slice _ n _ => n
  | _ => 0
section
variable {X X' : Nat → Prop} {w w' w1 w2 w3 : World} {rb : Nat} {vd vc vf vw : Value} {V : Nat → Value} {L : Nat → List (ByteArray × Value)} {W : List (PW × Value)} {p : DP}
set_option maxHeartbeats 8000000 in
set_option maxRecDepth 100000 in
theorem RNames_any (h : RefV X w rb vd vc vf vw V L W p) (hw : WF p) (hc : p.chs.length ≤ 1000) :
    Calls Tryz.prog 46 #[.pointer (some ⟨rb, 0, none⟩)] w fun e w' => ∃ v, e = .returned v ∧ w'.ownsRow w.heap.size 9 1 v (sN p.now).length ((sN p.now).map encStr) ∧ Below w.heap.size w w' := by
  have hN := RNow_any h hw hc
  have hlen := hw.now.len
  have hnd := hw.now.nodup
  have hne : ∀ e ∈ p.now, e.nm ≠ ByteArray.empty := fun e he => nameOK_ne (hw.now.name e he)
  obtain ⟨D, hD⟩ : ∃ D, p.now = D := ⟨_, rfl⟩
  rw [hD] at hN hlen hnd hne ⊢
  clear hD
  rw [bN_val, sN_len]
  have hbl : (bN D).length = D.length := by unfold bN; rw [List.length_map, sN_len]
  have HBL := Lib.hid (And.intro hbl (And.intro hnd hne))
  clear hbl hnd hne
  go_enter Tryz.func46, Tryz.ntmps46
  go_wp2_with (go_at_call 86; refine hN.mono ?_; rintro e w1 ⟨v, rfl, hr, hb⟩; obtain ⟨A, c, rfl⟩ := hr.form)
  go_loopw [4] (fun out wr => Below w.heap.size w wr ∧ Below w1.heap.size w1 wr ∧ ∃ j A2 c2, j ≤ D.length ∧ out = .slice A2 j c2 ∧ wr.ownsRow w1.heap.size 9 1 out j (strs ((bN D).take j))) (fun out _ => D.length - slen out)
  case atStart => exact ⟨hb, Below.refl _ _, 0, none, 0, Nat.zero_le _, rfl, World.ownsRow_nil _ _ _ _⟩
  case round =>
    obtain ⟨hbw, hb1, j, A2, c2, hj, rfl, ho⟩ := hrel
    obtain ⟨wo, rfl⟩ : ∃ wo, wo = wr := ⟨wr, rfl⟩
    by_cases hlt : j < D.length
    · have d1 : decide (j < D.length) = true := by simpa using hlt
      have HO := Lib.hid (And.intro ho (And.intro hbw (And.intro hb1 hb)))
      have hrb : ∀ W, Below wo.heap.size wo W → Below w1.heap.size w1 W := fun W h => hb1.trans (h.mono hb1.size)
      clear ho hbw hb1
      go_wp2
      go_loopw [5, 6] (fun best i wr2 => Below wo.heap.size wo wr2 ∧ ∃ k b, k ≤ D.length ∧ i = .int .i64 k ∧ best = .string b ∧ BestR D j k b) (fun _ i _ => D.length - (intOf i).toNat)
      case atStart => exact ⟨Below.refl _ _, 0, ByteArray.empty, Nat.zero_le _, rfl, rfl, .inl ⟨rfl, fun k e hk => by omega⟩⟩
      case round =>
        obtain ⟨hb2, k, b, hk, rfl, rfl, hbest⟩ := hrel
        obtain ⟨wm, rfl⟩ : ∃ wm, wm = wr := ⟨wr, rfl⟩
        have HB := Lib.hid hbest
        clear hbest
        by_cases hlt2 : k < D.length
        · have d2 : decide (k < D.length) = true := by simpa using hlt2
          obtain ⟨x, hx⟩ : ∃ x, D[k]? = some x := ⟨_, List.getElem?_eq_getElem hlt2⟩
          obtain ⟨gl, cur, rfl, hg, hcur⟩ := EnRow.of_row hr (by omega)
          have hcx : ∀ W, Below wm.heap.size wm W → W.cell? ⟨gl, k * 2, none⟩ = some (.string x.nm) := fun W hW => ((hrb W (hb2.trans (hW.mono hb2.size))).cell (p := ⟨gl, k * 2, none⟩) hg.lt).trans ((hg.cell _).trans (hcur _ _ ((en_at hx 0 (by omega)).trans rfl)))
          have k0 : (0 : Int) ≤ (k : Int) := by omega
          have k1 : (k : Int) < (D.length : Int) := by omega
          have HX := Lib.hid hx
          clear hx hcur
          go_wp2
          go_loopw [7, 8] (fun fr m wr3 => Below wm.heap.size wm wr3 ∧ ∃ n, n ≤ j ∧ m = .int .i64 n ∧ fr = .bool (freshK D x.nm n)) (fun _ m _ => j - (intOf m).toNat)
          case atStart => exact ⟨Below.refl _ _, 0, Nat.zero_le _, rfl, rfl⟩
          case round =>
            obtain ⟨hb3, n, hn, rfl, rfl⟩ := hrel
            have e1 := hcx wr hb3
            by_cases hlt3 : n < j
            · have d3 : decide (n < j) = true := by simpa using hlt3
              obtain ⟨go, hA2, hgo1, hgo2, hcell⟩ := out_cell HO.out.1 (by omega)
              subst hA2
              obtain ⟨ob, hob⟩ : ∃ ob, (bN D)[n]? = some ob := ⟨_, List.getElem?_eq_getElem (by have := HBL.out.1; omega)⟩
              have e2 := hcell wr (hb2.trans (hb3.mono hb2.size)) n ob (by rw [List.getElem?_take, if_pos hlt3]; exact hob)
              have hsu := freshK_succ (s := x.nm) hob
              have HSU := Lib.hid hsu
              clear hsu hob hcell
              have n0 : (0 : Int) ≤ (n : Int) := by omega
              have n1 : (n : Int) < (j : Int) := by omega
              cases hf : freshK D x.nm n with
              | false =>
                rw [hf] at HSU
                go_wp2
                go_quiet (fail)
                go_wp2
                go_roundw
                case rel => exact ⟨below_drewN hb3 _, n + 1, by omega, by go_num, by rw [HSU.out]; rfl⟩
                case measure => simp [intOf]; omega
              | true =>
                rw [hf] at HSU
                by_cases hxo : ob = x.nm
                · have d4 := tl_eq hxo
                  have d5 : (ob.toList != x.nm.toList) = false := by simp [bne, d4]
                  have HXO := Lib.hid hxo
                  clear hxo
                  go_wp2
                  go_quiet (fail)
                  go_wp2
                  go_roundw
                  case rel => exact ⟨below_drewN hb3 _, n + 1, by omega, by go_num, by rw [HSU.out, HXO.out]; simp⟩
                  case measure => simp [intOf]; omega
                · have d4 := tl_ne hxo
                  have d5 : (ob.toList != x.nm.toList) = true := by simp [bne, d4]
                  have HXO := Lib.hid hxo
                  clear hxo
                  go_wp2
                  go_quiet (fail)
                  go_wp2
                  go_roundw
                  case rel => exact ⟨below_drewN hb3 _, n + 1, by omega, by go_num, by rw [HSU.out]; simp [HXO.out]⟩
                  case measure => simp [intOf]; omega
            · obtain rfl : n = j := by omega
              have d3 : decide (n < n) = false := by simp
              have hfa := freshK_all D x.nm n
              have HFA := Lib.hid hfa
              have hbm := hb2.trans (hb3.mono hb2.size)
              clear hfa
              cases hf : freshK D x.nm n with
              | false =>
                rw [hf] at HFA
                go_wp2
                go_roundw
                case rel =>
                  refine ⟨hbm, k + 1, b, by omega, by go_num, rfl, HB.out.skip HX.out ?_⟩
                  have h1 := HFA.out
                  simpa using h1.symm
                case measure => simp [intOf]; omega
              | true =>
                rw [hf] at HFA
                have hnot : x.nm.data.toList ∉ (sN D).take n := by simpa using HFA.out.symm
                by_cases hbe : b = ByteArray.empty
                · have d6 := em_true hbe
                  have d7 : b.toList = [] := (toList_nil_iff_emptyBytes b).2 hbe
                  have HE := Lib.hid (And.intro hbe hnot)
                  clear hbe hnot
                  go_wp2
                  go_roundw
                  case rel => exact ⟨hbm, k + 1, x.nm, by omega, by go_num, rfl, HB.out.take HX.out HE.out.2 (.inl HE.out.1) HBL.out.2.2⟩
                  case measure => simp [intOf]; omega
                · have d6 := em_false hbe
                  have d7 : ¬ b.toList = [] := fun h => hbe ((toList_nil_iff_emptyBytes b).1 h)
                  cases hl : Op.bytesLess x.nm.toList b.toList with
                  | true =>
                    have h9 : x.nm.data.toList < b.data.toList := by
                      rw [bytesLess_eq, ByteArray.toList_eq, ByteArray.toList_eq] at hl
                      exact of_decide_eq_true hl
                    have HE := Lib.hid (And.intro h9 hnot)
                    clear h9 hbe hnot
                    go_wp2
                    go_roundw
                    case rel => exact ⟨hbm, k + 1, x.nm, by omega, by go_num, rfl, HB.out.take HX.out HE.out.2 (.inr (fun h => absurd (List.lt_trans HE.out.1 h) (List.lt_irrefl _))) HBL.out.2.2⟩
                    case measure => simp [intOf]; omega
                  | false =>
                    have h9 : ¬ x.nm.data.toList < b.data.toList := by
                      rw [bytesLess_eq, ByteArray.toList_eq, ByteArray.toList_eq] at hl
                      exact of_decide_eq_false hl
                    have HE := Lib.hid (And.intro h9 hbe)
                    clear h9 hbe hnot
                    go_wp2
                    go_roundw
                    case rel => exact ⟨hbm, k + 1, b, by omega, by go_num, rfl, HB.out.stay HX.out HE.out.2 HE.out.1⟩
                    case measure => simp [intOf]; omega
        · obtain rfl : k = D.length := by omega
          have d2 : decide (D.length < D.length) = false := by simp
          have hjs : j < (sN D).length := by rw [sN_len]; exact hlt
          have hbd : (bN D)[j]? = some b := by
            have h1 := HB.out.done HBL.out.2.1 hjs
            unfold bN
            rw [List.getElem?_map, List.getElem?_eq_getElem hjs, ← h1]
            simp
          have hts : (bN D).take (j + 1) = (bN D).take j ++ [b] := by rw [List.take_add_one, hbd]; rfl
          have HTS := Lib.hid hts
          clear hjs hbd hts
          have ho2 := own_below' HO.out.1 hb2
          have hbs := hb2.size
          have hb1s := (hrb wm hb2).size
          have HS := Lib.hid (And.intro hbs hb1s)
          clear hbs hb1s
          go_wp2_with (at_builtin; refine list_push TSt rfl rfl w1.heap.size rfl (ho2.alloc _) rfl (reads_blk (cs := #[.string b]) (blk_newH _ _ _ rfl) rfl) (by intro u hu; simp at hu; subst hu; rfl) (by omega) (by have := HS.out.2; simp; omega) rfl (ys := strs ((bN D).take j ++ [b])) (by simp [strs]) ?_; intro A9 c9 w9 ho9 hg9 hl9)
          go_roundw
          case rel =>
            have hge : ∀ k, (Value.slice A2 j c2).ownBlock = some k → w1.heap.size ≤ k := fun k hk => (HO.out.1.lt k hk).1
            have hB1 : Below w1.heap.size w1 w9 := ((hrb wm hb2).alloc HS.out.2 _).grown hg9 (by have := HS.out.2; simp; omega) hge
            have hBw : Below w.heap.size w w9 := HO.out.2.2.2.trans (hB1.mono HO.out.2.2.2.size)
            refine ⟨hBw, hB1, j + 1, A9, c9, by omega, rfl, ?_⟩
            rw [HTS.out]
            exact ho9
          case measure => simp [slen]; omega
    · obtain rfl : j = D.length := by omega
      have d1 : decide (D.length < D.length) = false := by simp
      have ht1 : (bN D).take D.length = bN D := by rw [← HBL.out.1]; exact List.take_length
      rw [ht1] at ho
      clear ht1
      go_wp2
      go_ret
      exact ⟨_, rfl, own_le ho hb.size, hbw⟩
end
end Go.Proofs.YtekajggjoeimoaaGreatDoor
set_option linter.unusedVariables false
namespace Go.Proofs.YtekajggjoeimoaaGreatDoor
open Go.RowKit
/-- What model leaves. -/
def MoL (X : Nat → Prop) (w : World) (rb : Nat) (r : Int × ByteArray × DP) (e : Ending) (w' : World) : Prop := e = .returned (.tuple #[.int .i64 r.1, .string r.2.1]) ∧ RD (More X w) w' rb r.2.2 ∧ Fr X w w'
/-- What is asked of a deed that came in. -/
structure DmIn (X : Nat → Prop) (w : World) (x : Dd) (Ap Ak : Option Addr) : Prop where
  p : ∀ W0, Fr X w W0 → Reads W0 W0.heap.size 1 Ap x.p.size (bvals x.p)
  k : ∀ W0, Fr X w W0 → Reads W0 W0.heap.size 1 Ak x.keep.length (x.keep.map (.int .i64))
  sa : x.a.size ≤ 100000
  sb : x.b.size ≤ 100000
  sp : x.p.size ≤ 100000
  sk : x.keep.length ≤ 100000
section
variable {X X' : Nat → Prop} {w w' w1 w2 w3 : World} {rb : Nat} {p p' : DP} {x : Dd} {Ap Ak : Option Addr} {cp ck : Nat}
theorem RD.below (h : RD X w rb p) (hb : Below w.heap.size w w') : RD X w' rb p := by
  obtain ⟨vd, vc, vf, vw, V, L, W, hv⟩ := h
  exact ⟨vd, vc, vf, vw, V, L, W, hv.below hb⟩
theorem RD.more (h : RD X w rb p) (hX : ∀ k, X k → X' k) : RD X' w rb p := by
  obtain ⟨vd, vc, vf, vw, V, L, W, hv⟩ := h
  exact ⟨vd, vc, vf, vw, V, L, W, hv.keep hX Same.refl (KB.refl _)⟩
theorem RA.below (h : RA X w rb p) (hb : Below w.heap.size w w') : RA X w' rb p :=
  ⟨h.rd.below hb, h.wf, fun k hk => Nat.lt_of_lt_of_le (h.lt k hk) hb.size, fun k cs hk => by rw [hb.block k (h.lt k hk)]; exact h.nb k cs hk, h.after, h.chs, h.wrs, h.fls⟩
end
end Go.Proofs.YtekajggjoeimoaaGreatDoor
set_option linter.unusedVariables false
namespace Go.Proofs.YtekajggjoeimoaaGreatDoor
open Go.RowKit
set_option maxHeartbeats 1000000 in
set_option maxRecDepth 100000 in
theorem New_any2 (w : World) {room : Int} (h0 : 0 ≤ room) (h1 : room ≤ 4096) : Calls Tryz.prog 9 #[.int .i64 room] w fun e w' => e = .returned (.tuple #[.pointer (some ⟨w.heap.size + 2, 0, none⟩), .nilIface]) ∧
    ∃ M1 M2, M1 ≠ M2 ∧ w.heap.size ≤ M1 ∧ w'.heap[M1]? = some (.map #[] 0) ∧ w.heap.size ≤ M2 ∧ w'.heap[M2]? = some (.map #[] 0) ∧ Blk w' (w.heap.size + 2) 66 (dcells room (.map (some M1)) (.map (some M2)) (.slice none 0 0) (.slice none 0 0) false 0 0) ∧ Below w.heap.size w w' := by
  have hmm := @run_makeMap Tryz.prog
  have d0 : decide (room < 0) = false := by simp; omega
  have d1 : decide (4096 < room) = false := by simp; omega
  go_enter Tryz.func9, Tryz.ntmps9
  go_wp2
  go_ret2
  have e1 : ((w.alloc (.map #[] 0)).alloc (.map #[] 0)).heap.size = w.heap.size + 2 := by simp
  have e2 : (w.alloc (.map #[] 0)).heap.size = w.heap.size + 1 := by simp
  refine ⟨rfl, w.heap.size, w.heap.size + 1, by omega, by omega, ?_, by omega, ?_, ?_, (((Below.refl _ _).alloc (Nat.le_refl _) _).alloc (by simp) _).alloc (by simp; omega) _⟩
  · exact (Below.heap_alloc _ _ _ (by simp; omega)).trans ((Below.heap_alloc _ _ _ (by simp)).trans (heap_alloc_new w (.map #[] 0)))
  · have h1 := heap_alloc_new (w.alloc (.map #[] 0)) (.map #[] 0)
    rw [e2] at h1
    exact (Below.heap_alloc _ _ _ (by simp)).trans h1
  · have := Blk.new ((w.alloc (.map #[] 0)).alloc (.map #[] 0)) 66 #[.int .i64 room, .map (some w.heap.size), .map (some (w.heap.size + 1)), .slice none 0 0, .slice none 0 0, .bool false, .int .i64 0, .int .i64 0]
    rw [e1] at this
    exact this
def nmA : ByteArray := ⟨#[97]⟩
def qS (f : Nat) (ws : List Wr) : DQ := ⟨16, [⟨nmA, f, 0⟩], 1, [⟨nmA, f, 0⟩], 1, [], ws, false, 0, 0⟩
/-- The disk, beside what is another's (Y). -/
def DS (B : Nat) (Y : Nat → Prop) (w : World) (db : Nat) (fs : List Nat) (C : Nat → Bool → List ByteArray) (q : DQ) : Prop :=
  ∃ X M1 M2 v3 v4 V, (∀ k, X k → k < w.heap.size ∧ B ≤ k ∧ ¬ Y k) ∧ DiskV X w db M1 M2 v3 v4 q ∧ FilesV X w fs V C
section
variable {B : Nat} {Y Y' : Nat → Prop} {w w' : World} {db : Nat} {fs : List Nat} {C C' : Nat → Bool → List ByteArray} {q q' : DQ}
/-- What is another's is as it was. -/
def FrN (B : Nat) (Y : Nat → Prop) (w w' : World) : Prop := Fr (fun k => B ≤ k ∧ ¬ Y k) w w'
theorem FrN.below (h : FrN B Y w w') (hB : B ≤ w.heap.size) : Below B w w' := Fr.below h hB (fun k hk => hk.1)
/-- Another's turn. -/
theorem DS.other (h : DS B Y w db fs C q) (hf : Fr Y w w') (hY : ∀ k, Y' k → Y k ∨ w.heap.size ≤ k) : DS B Y' w' db fs C q := by
  obtain ⟨X, M1, M2, v3, v4, V, hX, hD, hF⟩ := h
  have hk : ∀ k o, X k → w.heap[k]? = some o → w'.heap[k]? = some o := fun k o hx h => hf.heap h (hX k hx).2.2
  refine ⟨X, M1, M2, v3, v4, V, fun k hx => ⟨Nat.lt_of_lt_of_le (hX k hx).1 hf.size, (hX k hx).2.1, fun hy => ?_⟩, hD.keep (fun _ h => h) (fun k cs t _ hx h => hk k _ hx h) (fun k es c hx h => hk k _ hx h), hF.keep (fun _ h => h) (fun k cs t _ hx h => hk k _ hx h)⟩
  rcases hY k hy with h1 | h1
  · exact (hX k hx).2.2 h1
  · have := (hX k hx).1; omega
end
end Go.Proofs.YtekajggjoeimoaaGreatDoor
set_option linter.unusedVariables false
namespace Go.Proofs.YtekajggjoeimoaaGreatDoor
open Go.RowKit
def opNew : ByteArray := ⟨#[110, 101, 119]⟩
theorem new_go (w : World) {room : Int} (h : 0 ≤ room ∧ room ≤ 4096) : Calls Tryz.prog 9 #[.int .i64 room] w fun e w' => (∃ db, e = .returned (.tuple #[.pointer (some ⟨db, 0, none⟩), .nilIface]) ∧ PD (fun k => w.heap.size ≤ k) w' db (newP room)) ∧ Below w.heap.size w w' := by
  refine (New_any2 w h.1 h.2).mono ?_
  rintro e w' ⟨rfl, M1, M2, hne, hM1, h1, hM2, h2, hblk, hb⟩
  refine ⟨⟨_, rfl, M1, M2, .slice none 0 0, .slice none 0 0, ⟨room, [], 0, [], 0, [], [], false, 0, 0⟩, [], fun _ _ => .slice none 0 0, fun _ _ => [], fun i => i, ?_, ?_, Tie.nil h⟩, hb⟩
  · exact ⟨hblk, h1, h2, hne, by omega, hM1, hM2, ⟨by simp, by simp, by simp⟩, ⟨by simp, by simp, by simp⟩, RowX.nil, RowX.nil⟩
  · exact ⟨by simp, by simp, by simp, by simp⟩
end Go.Proofs.YtekajggjoeimoaaGreatDoor
