/- DiskLoads in plain words: what keeps through deeds; a deed where the disk is not armed. The disk in memory does not know its files' numbers: it is the disk that is loaded of what it saves. Two disks of the program's beside each other. small, with what it says of Grow. slices.IndexFunc at bytes: the first byte below 128. slices.Clone at bytes; vint.GetBytes, where vint.Get is known. The number with which bytes begin, as the program reads it: from behind. slices.Backward at bytes: its closure's contract. slices.Backward at bytes: what a range over it may know. vint.Get, walked. UNDER WAY. vint.Get, the number. A region, walked on: what is held may grow. The program's loader, walked: sectors. The program's loader, walked: a name and its file. The program's loader, walked: a file. The program's loader, walked: a file that is there. -/
import Derived.Test.YtekajggjoeimoaaGreatDoorLm
import Derived.RangeFuncLeaves
import Derived.RangeFuncFrom
import Derived.WalkKit
import Derived.OwnWalkIn
import Derived.TacticsInMore
import Derived.LoopNIn
import Derived.LoopIn
import Derived.Laws.Bits64b
import Derived.Conc.WgArith
import Derived.RangeFuncWrites
import Derived.RangeFuncNested
import Derived.RangeFuncBound
import Derived.RangeFuncCalls
set_option linter.unusedVariables false
namespace Go.Proofs.YtekajggjoeimoaaGreatDoor
open Go.RowKit
theorem filterMap_ids (f : En → Option En) (hf : ∀ e e', f e = some e' → e'.id = e.id) : ∀ d : List En, ((d.filterMap f).map (·.id)).Sublist (d.map (·.id))
  | [] => List.Sublist.slnil
  | e :: d => by
    rw [List.filterMap_cons]
    cases h : f e with
    | none => exact (filterMap_ids f hf d).cons _
    | some e' =>
      simp only [List.map_cons]
      rw [hf e e' h]
      exact (filterMap_ids f hf d).cons_cons _
theorem turnP_sub (d : List En) (c : Ch) : ((turnP d c).map (·.id)).Sublist (d.map (·.id) ++ c.ids) := by
  cases c with
  | new nm i => simp [turnP, Ch.ids]
  | gone nm =>
    simp only [turnP, Ch.ids, List.append_nil]
    exact List.filter_sublist.map _
  | moved a b =>
    simp only [turnP, Ch.ids, List.append_nil]
    split
    · exact List.Sublist.refl _
    · refine filterMap_ids _ (fun e e' h => ?_) d
      split at h
      · cases h; rfl
      · split at h
        · cases h
        · cases h; rfl
theorem fold_sub : ∀ (l : List Ch) (d : List En), ((l.foldl turnP d).map (·.id)).Sublist (d.map (·.id) ++ l.flatMap Ch.ids)
  | [], d => by simp
  | c :: l, d => by
    have h := (fold_sub l (turnP d c)).trans ((turnP_sub d c).append (List.Sublist.refl (l.flatMap Ch.ids)))
    rw [List.foldl_cons, List.flatMap_cons, ← List.append_assoc]
    exact h
/-- Each file has one name; no file is long. -/
structure Sane (p : DP) : Prop where
  ids : (p.dir.map (·.id) ++ p.chs.flatMap Ch.ids).Nodup
  len : ∀ l ∈ p.files, l.length ≤ 100
theorem Sane.new (room : Int) : Sane (newP room) := ⟨by simp [newP], by simp [newP]⟩
theorem Sane.of {p q : DP} (h : Sane p) (e1 : q.dir = p.dir) (e2 : q.chs = p.chs) (e3 : q.files = p.files) : Sane q := ⟨by rw [e1, e2]; exact h.ids, by rw [e3]; exact h.len⟩
theorem Sane.file {p : DP} (h : Sane p) (i : Nat) : (p.file i).length ≤ 100 := by
  unfold DP.file
  rw [List.getD_eq_getElem?_getD]
  cases e : p.files[i]? with
  | none => simp
  | some l => exact h.len l (List.mem_of_getElem? e)
theorem crashW_le (keep : List Int) : ∀ (i : Nat) (ws : List PW) (fs : List (List ByteArray)), (∀ l ∈ fs, l.length ≤ 100) → ∀ l ∈ crashW keep i ws fs, l.length ≤ 100
  | _, [], fs, h => h
  | i, x :: ws, fs, h => by
    unfold crashW
    refine crashW_le keep (i + 1) ws _ ?_
    split
    · intro l hl
      unfold keepW at hl
      obtain ⟨j, hj⟩ := List.getElem?_of_mem hl
      rw [List.getElem?_modify] at hj
      cases e : fs[j]? with
      | none => rw [e] at hj; simp at hj
      | some m =>
        have hm := h m (List.mem_of_getElem? e)
        rw [e] at hj
        by_cases hx : x.id = j
        · simp [hx] at hj; rw [← hj]; simpa using hm
        · simp [hx] at hj; rw [← hj]; exact hm
    · exact h
theorem Sane.fail {p : DP} (h : Sane p) : Sane (failP p).2 := h.of (failP_files p).2.2.1 (failP_files p).2.1 (failP_files p).1
theorem mem_set_le {fs : List (List ByteArray)} {i : Nat} {m : List ByteArray} (h : ∀ l ∈ fs, l.length ≤ 100) (hm : m.length ≤ 100) : ∀ l ∈ fs.set i m, l.length ≤ 100 := fun l hl => (List.mem_or_eq_of_mem_set hl).elim (h l) (fun e => e ▸ hm)
theorem Sane.add {p q : DP} (h : Sane p) {c : Ch} (hc : c.ids = []) (e1 : q.dir = p.dir) (e2 : q.chs = p.chs ++ [c]) (e3 : q.files = p.files) : Sane q := ⟨by rw [e1, e2]; simp [hc]; have := h.ids; simpa using this, by rw [e3]; exact h.len⟩
theorem Sane.doP {p : DP} (h : Sane p) (hw : WF p) {x : Dd} (hx : x.kind = 3 → x.n ≤ 100 ∨ 4096 < x.n) : Sane (Go.Proofs.YtekajggjoeimoaaGreatDoor.doP p x).2.2 := by
  have hs := h.fail
  have hwf := hw.fail
  unfold Go.Proofs.YtekajggjoeimoaaGreatDoor.doP
  split
  · simp only [createP]; split; exact hs; split; exact hs; split; exact hs; split; exact hs
    refine ⟨?_, fun l hl => ?_⟩
    · simp only [List.flatMap_append, List.flatMap_cons, List.flatMap_nil, List.append_nil, Ch.ids]
      rw [← List.append_assoc, List.nodup_append]
      refine ⟨hs.ids, by simp, fun a ha b hb e => ?_⟩
      simp only [List.mem_cons, List.not_mem_nil, or_false] at hb
      have := hwf.ids a (by unfold DP.live; exact List.mem_append_left _ ha)
      omega
    · rcases List.mem_append.1 hl with hl | hl
      · exact hs.len l hl
      · obtain rfl := List.mem_singleton.1 hl; simp
  split
  · simp only [removeP]; split; exact hs; split; exact hs; exact hs.add (c := .gone x.a) rfl rfl rfl rfl
  split
  · simp only [renameP]; split; exact hs; split; exact hs; split; exact hs; exact hs.add (c := .moved x.a x.b) rfl rfl rfl rfl
  split
  · rename_i h3
    simp only [growP]; split; exact hs; split; exact hs; split; exact hs; split; exact hs
    rename_i id _ h1 h2
    refine ⟨hs.ids, mem_set_le hs.len ?_⟩
    have := hs.file id
    rw [List.length_append, List.length_replicate]
    rcases hx h3 with h4 | h4 <;> omega
  split
  · simp only [writeP]; split; exact hs; split; exact hs; split; exact hs; split; exact hs; exact hs.of rfl rfl rfl
  split
  · simp only [readP]; split; exact hs; exact hs
  split
  · simp only [syncP]; split; exact hs; split; exact hs
    exact ⟨hs.ids, mem_set_le hs.len (by rw [DP.cont_len]; exact hs.file _)⟩
  split
  · simp only [syncdirP]; split; exact hs
    refine ⟨?_, hs.len⟩
    simp only [List.flatMap_nil, List.append_nil]
    exact (fold_sub _ _).nodup hs.ids
  split
  · exact h.of rfl rfl rfl
  split
  · refine ⟨?_, crashW_le _ _ _ _ h.len⟩
    simp only [crashP, List.flatMap_nil, List.append_nil]
    refine ((fold_sub _ _).trans ((List.Sublist.refl _).append ?_)).nodup h.ids
    have e := List.take_append_drop x.n.toNat p.chs
    rw [show p.chs.flatMap Ch.ids = (p.chs.take x.n.toNat).flatMap Ch.ids ++ (p.chs.drop x.n.toNat).flatMap Ch.ids by rw [← List.flatMap_append, e]]
    exact List.sublist_append_left _ _
  · exact h
/-- What is saved fits into the largest disk. -/
theorem Sane.sum {p : DP} (h : Sane p) (hw : WF p) : sumF (flOf p) ≤ 800 := by
  have h8 := (FlOK.of_disk hw).len
  have : ∀ l : List Fl, (∀ x ∈ l, x.2.length ≤ 100) → sumF l ≤ l.length * 100 := by
    intro l
    induction l with
    | nil => intro _; simp [sumF]
    | cons x l ih =>
      intro hl
      have h1 := hl x List.mem_cons_self
      have h2 := ih (fun y hy => hl y (List.mem_cons_of_mem _ hy))
      unfold sumF at h2 ⊢
      simp only [List.map_cons, List.sum_cons, List.length_cons]
      omega
  have h2 := this (flOf p) (fun x hx => by
    unfold flOf at hx
    obtain ⟨nm, _, rfl⟩ := List.mem_map.1 hx
    show (fileOf p nm).length ≤ 100
    unfold fileOf
    split
    · exact h.file _
    · simp)
  omega
/-! ### Two disks of which one was armed once -/
def ghost (p : DP) (a c : Int) : DP := { p with after := a, code := c }
structure Eqv (p p' : DP) : Prop where
  armed : p.armed = p'.armed
  eq : ∃ a c, p' = ghost p a c ∧ (p.armed = true → p' = p)
theorem failP_0 {p : DP} (h : p.armed = false) : failP p = (0, p) := by unfold failP; rw [if_pos h]
theorem ghost_doP {p : DP} (h : p.armed = false) (a c : Int) {x : Dd} (hx : x.kind ≠ 8) : Go.Proofs.YtekajggjoeimoaaGreatDoor.doP (ghost p a c) x = ((Go.Proofs.YtekajggjoeimoaaGreatDoor.doP p x).1, (Go.Proofs.YtekajggjoeimoaaGreatDoor.doP p x).2.1, ghost (Go.Proofs.YtekajggjoeimoaaGreatDoor.doP p x).2.2 a c) ∧ (Go.Proofs.YtekajggjoeimoaaGreatDoor.doP p x).2.2.armed = false := by
  have f1 := failP_0 h
  have f2 : failP (ghost p a c) = (0, ghost p a c) := failP_0 h
  have n1 : (ghost p a c).now = p.now := rfl
  have n2 : ∀ i, (ghost p a c).file i = p.file i := fun _ => rfl
  have n3 : (ghost p a c).used = p.used := rfl
  have n4 : ∀ i, (ghost p a c).cont i = p.cont i := fun _ => rfl
  have n5 : (ghost p a c).room = p.room := rfl
  have n6 : (ghost p a c).files = p.files := rfl
  have n7 : ∀ nm n, lookP (ghost p a c) nm n = lookP p nm n := fun _ _ => rfl
  unfold Go.Proofs.YtekajggjoeimoaaGreatDoor.doP
  split
  · simp only [createP, f1, f2, n1, n6]; simp only [ne_eq, not_true, if_false]; split; exact ⟨rfl, h⟩; split; exact ⟨rfl, h⟩; split; exact ⟨rfl, h⟩; exact ⟨rfl, h⟩
  split
  · simp only [removeP, f1, f2, n1]; simp only [ne_eq, not_true, if_false]; split; exact ⟨rfl, h⟩; exact ⟨rfl, h⟩
  split
  · simp only [renameP, f1, f2, n1]; simp only [ne_eq, not_true, if_false]; split; exact ⟨rfl, h⟩; split; exact ⟨rfl, h⟩; exact ⟨rfl, h⟩
  split
  · simp only [growP, f1, f2, n1, n2, n3, n5, n6]; simp only [ne_eq, not_true, if_false]; split; exact ⟨rfl, h⟩; split; exact ⟨rfl, h⟩; split; exact ⟨rfl, h⟩; exact ⟨rfl, h⟩
  split
  · simp only [writeP, f1, f2, n1, n2]; simp only [ne_eq, not_true, if_false]; split; exact ⟨rfl, h⟩; split; exact ⟨rfl, h⟩; split; exact ⟨rfl, h⟩; exact ⟨rfl, h⟩
  split
  · simp only [readP, f1, f2, n7]; simp only [ne_eq, not_true, if_false]; first | exact ⟨rfl, h⟩ | exact ⟨trivial, h⟩
  split
  · simp only [syncP, f1, f2, n1, n4, n6]; simp only [ne_eq, not_true, if_false]; split; exact ⟨rfl, h⟩; exact ⟨rfl, h⟩
  split
  · simp only [syncdirP, f1, f2, n1]; simp only [ne_eq, not_true, if_false]; exact ⟨rfl, h⟩
  split
  · exact ⟨rfl, rfl⟩
  · exact ⟨rfl, h⟩
theorem Eqv.refl (p : DP) : Eqv p p := ⟨rfl, p.after, p.code, rfl, fun _ => rfl⟩
/-- A deed answers alike, and leaves them alike. -/
theorem Eqv.doP {p p' : DP} (h : Eqv p p') (x : Dd) : (Go.Proofs.YtekajggjoeimoaaGreatDoor.doP p' x).1 = (Go.Proofs.YtekajggjoeimoaaGreatDoor.doP p x).1 ∧ (Go.Proofs.YtekajggjoeimoaaGreatDoor.doP p' x).2.1 = (Go.Proofs.YtekajggjoeimoaaGreatDoor.doP p x).2.1 ∧ Eqv (Go.Proofs.YtekajggjoeimoaaGreatDoor.doP p x).2.2 (Go.Proofs.YtekajggjoeimoaaGreatDoor.doP p' x).2.2 := by
  obtain ⟨h1, a, c, h2, h3⟩ := h
  by_cases ha : p.armed = true
  · rw [h3 ha]; exact ⟨rfl, rfl, Eqv.refl _⟩
  · have ha' : p.armed = false := by simpa using ha
    subst h2
    by_cases h8 : x.kind = 8
    · have e : ∀ q : DP, Go.Proofs.YtekajggjoeimoaaGreatDoor.doP q x = (0, ByteArray.empty, armP q x.n x.p.size) := fun q => by
        unfold Go.Proofs.YtekajggjoeimoaaGreatDoor.doP
        rw [h8]
        simp
      rw [e, e]
      exact ⟨rfl, rfl, Eqv.refl _⟩
    · obtain ⟨e, he⟩ := ghost_doP ha' a c h8
      rw [e]
      exact ⟨rfl, rfl, rfl, a, c, rfl, fun hh => by rw [he] at hh; cases hh⟩
/-- What is saved sees nothing of it. -/
theorem Eqv.save {p p' : DP} (h : Eqv p p') : saveP p' = saveP p := by
  obtain ⟨_, a, c, rfl, _⟩ := h
  rfl
end Go.Proofs.YtekajggjoeimoaaGreatDoor
set_option linter.unusedVariables false
namespace Go.Proofs.YtekajggjoeimoaaGreatDoor
open Go.RowKit Go.Sort
theorem ids_inj : ∀ {d : List En}, (d.map (·.id)).Nodup → ∀ {a b : En}, a ∈ d → b ∈ d → a.id = b.id → a = b
  | [], _, a, b, ha, _, _ => by cases ha
  | x :: d, h, a, b, ha, hb, e => by
    obtain ⟨h1, h2⟩ := List.nodup_cons.1 h
    rcases List.mem_cons.1 ha with rfl | ha1
    · rcases List.mem_cons.1 hb with rfl | hb1
      · rfl
      · exact absurd (List.mem_map.2 ⟨b, hb1, e.symm⟩) h1
    · rcases List.mem_cons.1 hb with rfl | hb1
      · exact absurd (List.mem_map.2 ⟨a, ha1, e⟩) h1
      · exact ids_inj h2 ha1 hb1 e
section
variable {X : Nat → Prop} {w : World} {db : Nat} {p : DP}
theorem flOf_at {k : Nat} {nm : List UInt8} (h : (sN p.dir)[k]? = some nm) : (flOf p)[k]? = some (nm, fileOf p nm) := by
  unfold flOf
  rw [List.getElem?_map, h]
  rfl
theorem PD.renum (h : PD X w db p) (hc : p.chs = []) (hw : p.wrs = []) (ha : p.armed = false) (hi : (p.dir.map (·.id)).Nodup) : PD X w db (ghost (mkP p.room (flOf p)) p.after p.code) := by
  obtain ⟨M1, M2, v3, v4, q, fs, V, C, fb, hD, hF, ht⟩ := h
  have hfl := FlOK.of_disk ht.wf
  have hwf := mkP_wf hfl ht.wf.room
  have hnow : p.now = p.dir := by unfold DP.now; rw [hc]; rfl
  have hcont : ∀ i, p.cont i = p.file i := fun i => by unfold DP.cont; rw [hw]; rfl
  have hdl : ∀ i ∈ p.dir.map (·.id), i ∈ p.live := fun i h => by unfold DP.live; simp only [List.mem_append]; exact .inl (.inl h)
  obtain ⟨fb', hfb⟩ : ∃ fb' : Nat → Nat, fb' = fun k => fb ((findP ⟨((sN p.dir).getD k []).toArray⟩ p.dir).getD 0) := ⟨_, rfl⟩
  have hat : ∀ k nm i, (sN p.dir)[k]? = some nm → findP ⟨nm.toArray⟩ p.dir = some i → fb' k = fb i := fun k nm i h1 h2 => by
    rw [hfb]
    show fb ((findP ⟨((sN p.dir).getD k []).toArray⟩ p.dir).getD 0) = _
    rw [List.getD_eq_getElem?_getD, h1]
    show fb ((findP ⟨nm.toArray⟩ p.dir).getD 0) = _
    rw [h2]
    rfl
  have hlive : ∀ k ∈ (ghost (mkP p.room (flOf p)) p.after p.code).live, ∃ nm i, (sN p.dir)[k]? = some nm ∧ findP ⟨nm.toArray⟩ p.dir = some i ∧ i ∈ p.dir.map (·.id) ∧ fb' k = fb i ∧ (ghost (mkP p.room (flOf p)) p.after p.code).file k = p.file i := fun k hk => by
    unfold DP.live ghost mkP at hk
    simp only [List.flatMap_nil, List.map_nil, List.append_nil, List.mem_map] at hk
    obtain ⟨e, he, rfl⟩ := hk
    obtain ⟨j, x, h1, _, h3⟩ := dirF_mem 0 _ e he
    rw [Nat.zero_add] at h3
    rw [h3]
    have hj := h1
    unfold flOf at hj
    rw [List.getElem?_map] at hj
    cases hn : (sN p.dir)[j]? with
    | none => rw [hn] at hj; cases hj
    | some nm =>
      obtain ⟨i, hf, hid⟩ := sN_find (List.mem_of_getElem? hn)
      refine ⟨nm, i, rfl, hf, hid, hat j nm i hn hf, ?_⟩
      show ((flOf p).map (·.2)).getD j [] = p.file i
      rw [List.getD_eq_getElem?_getD, List.getElem?_map, flOf_at hn]
      show fileOf p nm = p.file i
      unfold fileOf
      rw [hf]
  have hdir : ∀ x, (findP x p.dir).map fb = (findP x (dirF 0 (flOf p))).map fb' := fun x => by
    cases hx : findP x p.dir with
    | some i =>
      have hm := findP_mem hx
      have hmem : x.data.toList ∈ sN p.dir := by
        unfold sN
        rw [List.mem_mergeSort]
        exact List.mem_map.2 ⟨_, hm, rfl⟩
      obtain ⟨k, hk⟩ := List.getElem?_of_mem hmem
      have hx' : (⟨x.data.toList.toArray⟩ : ByteArray) = x := by simp
      have h2 := findP_dirF 0 (flOf p) hfl.nodup k _ (flOf_at hk)
      rw [hx'] at h2
      rw [h2]
      show some (fb i) = some (fb' (0 + k))
      rw [Nat.zero_add, hat k _ i hk (by rw [hx']; exact hx)]
    | none =>
      cases hy : findP x (dirF 0 (flOf p)) with
      | none => rfl
      | some j =>
        obtain ⟨k, y, h1, h2, _⟩ := dirF_mem 0 _ _ (findP_mem hy)
        have hm := List.mem_of_getElem? h1
        unfold flOf at hm
        obtain ⟨nm, hn, rfl⟩ := List.mem_map.1 hm
        obtain ⟨e, he, hen⟩ := sN_mem hn
        exact absurd (hen.trans h2.symm) (findP_none hx e he)
  refine ⟨M1, M2, v3, v4, q, fs, V, C, fb', hD, hF, ⟨hwf.dir, hwf.chs, hwf.ids, hwf.wrs, hwf.files, hwf.room⟩, ?_, ht.ok1, ht.ok2, ?_, ?_, ?_, ?_, ?_, ?_, ?_, ?_⟩
  · obtain ⟨a1, a2, a3, a4⟩ := ht.arms
    exact ⟨a1, a2.trans ha, a3, a4⟩
  · exact fun x => (ht.dir x).trans (hdir x)
  · intro x
    rw [ht.now x, hnow]
    exact hdir x
  · rw [ht.chs, hc]; rfl
  · rw [ht.wrs, hw]; rfl
  · intro i hi1 j hj1 he
    obtain ⟨n1, i1, a1, a2, a3, a4, _⟩ := hlive i hi1
    obtain ⟨n2, i2, b1, b2, b3, b4, _⟩ := hlive j hj1
    have e1 := ht.inj i1 (hdl _ a3) i2 (hdl _ b3) (by rw [← a4, ← b4]; exact he)
    subst e1
    have e2 := ids_inj hi (findP_mem a2) (findP_mem b2) rfl
    have e3 : n1 = n2 := by
      have := congrArg (fun z : En => z.nm.data.toList) e2
      simpa using this
    subst e3
    have hp := sN_pw ht.wf.dir.nodup
    obtain ⟨l1, g1⟩ := List.getElem?_eq_some_iff.1 a1
    obtain ⟨l2, g2⟩ := List.getElem?_eq_some_iff.1 b1
    rcases Nat.lt_trichotomy i j with hlt | rfl | hlt
    · exact absurd (g1.trans g2.symm) ((List.pairwise_iff_getElem.1 hp i j l1 l2 hlt).2)
    · rfl
    · exact absurd (g2.trans g1.symm) ((List.pairwise_iff_getElem.1 hp j i l2 l1 hlt).2)
  · intro i hi1
    obtain ⟨n1, i1, a1, a2, a3, a4, _⟩ := hlive i hi1
    rw [a4]
    exact ht.mem _ (hdl _ a3)
  · intro i hi1
    obtain ⟨n1, i1, a1, a2, a3, a4, a5⟩ := hlive i hi1
    rw [a4, a5]
    exact ht.cs _ (hdl _ a3)
  · intro i hi1
    obtain ⟨n1, i1, a1, a2, a3, a4, a5⟩ := hlive i hi1
    show C (fb' i) true = (ghost (mkP p.room (flOf p)) p.after p.code).file i
    rw [a4, a5, ← hcont]
    exact ht.cn _ (hdl _ a3)
end
end Go.Proofs.YtekajggjoeimoaaGreatDoor
set_option linter.unusedVariables false
namespace Go.Proofs.YtekajggjoeimoaaGreatDoor
open Go.RowKit
open Da
def One (B : Nat) (w : World) (db : Nat) (p : DP) (n : Nat) : Prop := ∃ X, Dk X w db p n ∧ Up B X
def Two (B : Nat) (w : World) (db cb : Nat) (p q : DP) (n m : Nat) : Prop := ∃ X1 X2, Dk X1 w db p n ∧ Dk X2 w cb q m ∧ Up B X1 ∧ Up B X2 ∧ ∀ k, X1 k → ¬ X2 k
section
variable {w w' : World} {db cb n m n' B : Nat} {p q : DP} {x : Dd} {Ap Ak : Option Addr} {cp ck : Nat}
theorem One.below (h : One B w db p n) (hb : Below w.heap.size w w') : One B w' db p n := by
  obtain ⟨X, h1, u⟩ := h
  exact ⟨X, h1.off (Fr.of_below (X := fun _ => False) hb) (fun _ _ h => h), u⟩
theorem one_new {w w1 : World} {room : Int} (h1 : PD (fun k => w.heap.size ≤ k) w1 db (newP room)) (hB : B ≤ w.heap.size) : One B w1 db (newP room) 0 :=
  ⟨_, Dk.only h1 (arm_new _) (cnt_new _), fun k hk => Nat.le_trans hB hk.1⟩
theorem do_one (h : One B w db p n) (hn : n ≤ 999) (h1 : 1 ≤ B) (hB : B ≤ w.heap.size) (hg : GlobAt w) (hp : RdB B w Ap x.p.size (bvals x.p)) (hk : RdB B w Ak x.keep.length (x.keep.map (.int .i64))) (hf : Few x) (hx : -9223372036854775808 ≤ x.n ∧ x.n ≤ 9223372036854775807) :
    Calls Tryz.prog 12 #[.pointer (some ⟨db, 0, none⟩), x.val Ap cp Ak ck] w fun e w' => e = .returned (.tuple #[.int .i64 (doP p x).1, .string (doP p x).2.1]) ∧ One B w' db (doP p x).2.2 (n + 1) ∧ GlobAt w' ∧ Below B w w' := by
  obtain ⟨X1, hD, hU1⟩ := h
  have h0 : ¬ X1 0 := fun h => by have := hU1 0 h; omega
  refine (do_step hD (by omega) hg h0 (ddin_of hp hk hf hx hU1 hB)).mono ?_
  rintro e w' ⟨rfl, ⟨X1', hD', hs⟩, hf'⟩
  exact ⟨rfl, ⟨X1', hD', hs.up hU1 hB⟩, hg.fr hf' h0, fr_below hf' hU1 hB⟩
theorem Two.swap (h : Two B w db cb p q n m) : Two B w cb db q p m n := by
  obtain ⟨X1, X2, h1, h2, u1, u2, d⟩ := h
  exact ⟨X2, X1, h2, h1, u2, u1, fun k a b => d k b a⟩
theorem Two.below (h : Two B w db cb p q n m) (hb : Below w.heap.size w w') : Two B w' db cb p q n m := by
  obtain ⟨X1, X2, h1, h2, u⟩ := h
  have hf := Fr.of_below (X := fun _ => False) hb
  exact ⟨X1, X2, h1.off hf (fun _ _ h => h), h2.off hf (fun _ _ h => h), u⟩
theorem do_two (h : Two B w db cb p q n m) (hn : n ≤ 999) (h1 : 1 ≤ B) (hB : B ≤ w.heap.size) (hg : GlobAt w) (hp : RdB B w Ap x.p.size (bvals x.p)) (hk : RdB B w Ak x.keep.length (x.keep.map (.int .i64))) (hf : Few x) (hx : -9223372036854775808 ≤ x.n ∧ x.n ≤ 9223372036854775807) :
    Calls Tryz.prog 12 #[.pointer (some ⟨db, 0, none⟩), x.val Ap cp Ak ck] w fun e w' => e = .returned (.tuple #[.int .i64 (doP p x).1, .string (doP p x).2.1]) ∧ Two B w' db cb (doP p x).2.2 q (n + 1) m ∧ GlobAt w' ∧ Below B w w' := by
  obtain ⟨X1, X2, hD, hD2, hU1, hU2, d⟩ := h
  have h0 : ¬ X1 0 := fun h => by have := hU1 0 h; omega
  refine (do_step hD (by omega) hg h0 (ddin_of hp hk hf hx hU1 hB)).mono ?_
  rintro e w' ⟨rfl, ⟨X1', hD', hs⟩, hf'⟩
  exact ⟨rfl, ⟨X1', X2, hD', hD2.off hf' (fun k h2 h1 => d k h1 h2), hs.up hU1 hB, hU2, fun k h1 h2 => (hs k h1).elim (fun h => d k h h2) (fun h => absurd (hD2.kind k h2).lt (by omega))⟩, hg.fr hf' h0, fr_below hf' hU1 hB⟩
theorem Cnt.crash (h : Cnt p n) : Cnt (crashP p 0 []) n := ⟨h.after, by simp [crashP], by simp [crashP], by show (crashW [] 0 p.wrs p.files).length ≤ _; rw [crashW_len]; exact h.fls⟩
theorem crash_two (h : Two B w db cb p q n m) (hn : n ≤ 1000) (h1 : 1 ≤ B) (hB : B ≤ w.heap.size) (hg : GlobAt w) :
    Calls Tryz.prog 19 #[.pointer (some ⟨db, 0, none⟩), .int .i64 0, .slice none 0 0] w fun e w' => e = .returned (.tuple #[]) ∧ Two B w' db cb (crashP p 0 []) q n m ∧ GlobAt w' ∧ Below B w w' := by
  obtain ⟨X1, X2, hD, hD2, hU1, hU2, d⟩ := h
  have h0 : ¬ X1 0 := fun h => by have := hU1 0 h; omega
  refine (pd_crash (hD.pa hn) 0 (by omega) (Ak := none) (ck := 0) (ks := []) (fun W _ => ⟨rfl, fun h => absurd h (by simp)⟩) (by simp)).mono ?_
  rintro e w' ⟨rfl, hP, hf'⟩
  refine ⟨rfl, ⟨_, X2, Dk.only hP (fun e => by cases e) hD.cnt.crash, hD2.off hf' (fun k h2 h1 => d k h1 h2), fun k hk => ?_, hU2, fun k h1 h2 => ?_⟩, hg.fr hf' h0, fr_below hf' hU1 hB⟩
  · rcases hk.1 with h | h
    · exact hU1 k h
    · exact Nat.le_trans hB h
  · rcases h1.1 with h | h
    · exact d k h h2
    · exact absurd (hD2.kind k h2).lt (by omega)
/-- A disk that is new beside one that was there. -/
theorem two_new {w1 : World} (h : One B w db p n) (hB : B ≤ w.heap.size) (h1 : PD (fun k => w.heap.size ≤ k) w1 cb q) (ha : ArmOK q) (hc : Cnt q m) (hb1 : Below w.heap.size w w1) : Two B w1 db cb p q n m := by
  obtain ⟨X1, hD, hU1⟩ := h
  refine ⟨X1, _, hD.off (Fr.of_below (X := fun _ => False) hb1) (fun _ _ h => h), Dk.only h1 ha hc, hU1, fun k hk => Nat.le_trans hB hk.1, fun k a b => ?_⟩
  have := (hD.kind k a).lt
  have := b.1
  omega
/-- The disk behind the crash is the disk that is loaded. -/
theorem Two.renum (h : Two B w db cb p q n m) (hc : p.chs = []) (hw : p.wrs = []) (ha : p.armed = false) (hi : (p.dir.map (·.id)).Nodup) (hn : 8 ≤ n') : Two B w db cb (ghost (mkP p.room (flOf p)) p.after p.code) q n' m := by
  obtain ⟨X1, X2, hD, hD2, hU1, hU2, d⟩ := h
  have hfl := (FlOK.of_disk hD.pd.wf).len
  refine ⟨X1, X2, ⟨hD.pd.renum hc hw ha hi, hD.kind, fun e => (by cases e), ⟨hD.cnt.after, ?_, ?_, ?_⟩⟩, hD2, hU1, hU2, d⟩
  · show ([] : List Ch).length ≤ n'; simp
  · show ([] : List PW).length ≤ n'; simp
  · show ((flOf p).map (·.2)).length ≤ n'
    rw [List.length_map]; omega
theorem One.wf (h : One B w db p n) : WF p := by
  obtain ⟨X, h1, _⟩ := h
  exact h1.pd.wf
theorem save_one (h : One B w db p n) :
    Calls Tryz.prog 18 #[.pointer (some ⟨db, 0, none⟩)] w fun e w' => ∃ v, e = .returned v ∧ w'.ownsRow w.heap.size 5 1 v (saveP p).length (bl (saveP p)) ∧ Below w.heap.size w w' := by
  obtain ⟨X, h1, _⟩ := h
  exact VSave_all h1.pd
theorem Two.fst (h : Two B w db cb p q n m) : One B w db p n := by
  obtain ⟨X1, X2, h1, h2, u1, u2, d⟩ := h
  exact ⟨X1, h1, u1⟩
end
/-! ### What is saved of a disk that was not made long -/
theorem room_doP (p : DP) (x : Dd) : (Go.Proofs.YtekajggjoeimoaaGreatDoor.doP p x).2.2.room = p.room := by
  have hf := (failP_files p).2.2.2.2
  unfold Go.Proofs.YtekajggjoeimoaaGreatDoor.doP
  split
  · simp only [createP]; split; exact hf; split; exact hf; split; exact hf; split; exact hf; exact hf
  split
  · simp only [removeP]; split; exact hf; split; exact hf; exact hf
  split
  · simp only [renameP]; split; exact hf; split; exact hf; split; exact hf; exact hf
  split
  · simp only [growP]; split; exact hf; split; exact hf; split; exact hf; split; exact hf; exact hf
  split
  · simp only [writeP]; split; exact hf; split; exact hf; split; exact hf; split; exact hf; exact hf
  split
  · simp only [readP]; split; exact hf; exact hf
  split
  · simp only [syncP]; split; exact hf; split; exact hf; exact hf
  split
  · simp only [syncdirP]; split; exact hf; exact hf
  split
  · rfl
  split
  · rfl
  · rfl
theorem Sane.save {p : DP} (h : Sane p) (hw : WF p) : (saveP p).length ≤ 900000 := by
  have h1 := len_saveL (flOf p) 6500 (fun x hx => by
    obtain ⟨o1, _, o3⟩ := flOf_ok hw x hx
    have l1 := nameOK_len o1
    have l2 := putN_len x.1.length
    have l3 := putN_len x.2.length
    have l4 := secB_len x.2 o3
    have l5 : x.2.length ≤ 100 := by
      unfold flOf at hx
      obtain ⟨nm, _, rfl⟩ := List.mem_map.1 hx
      show (fileOf p nm).length ≤ 100
      unfold fileOf
      split
      · exact h.file _
      · simp
    unfold fileB putB
    simp only [List.length_append]
    omega)
  have h2 := (FlOK.of_disk hw).len
  unfold saveP
  have h3 := Nat.mul_le_mul_right 6500 h2
  omega
theorem Sane.load {p : DP} (h : Sane p) (hw : WF p) (hr : p.room = 4096) : loadP 4096 (saveP p) = (some (mkP 4096 (flOf p)), 0) := by
  have := h.sum hw
  exact loadP_saveP hw (by omega) (by omega)
/-- What is behind the crash that keeps nothing is what is saved. -/
theorem flOf_crash (p : DP) : flOf (crashP p 0 []) = flOf p := by rw [crash_0]; rfl
end Go.Proofs.YtekajggjoeimoaaGreatDoor
set_option linter.unusedVariables false
namespace Go.Proofs.YtekajggjoeimoaaGreatDoor
open Go.RowKit
/-- A deed that may be asked: it makes no file long. -/
def Few2 (d : Dd) : Prop := Few d ∧ (d.kind = 3 → d.n ≤ 100 ∨ 4096 < d.n)
/-- What small answers. -/
def SmallR2 (ds : List Dm) (w : World) (e : Ending) (w' : World) : Prop := ∃ b, e = .returned (.bool b) ∧ Below w.heap.size w w' ∧ (b = true → ds.length ≤ 80 ∧ ∀ d ∈ ds, Few2 d.d)
set_option maxHeartbeats 16000000 in
set_option maxRecDepth 100000 in
theorem small_any2 {B : Nat} (A : Option Addr) (c : Nat) (ds : List Dm) (w : World) (hBw : B ≤ w.heap.size) (h : DeedsAt B w A ds) (hl : ds.length ≤ 9223372036854775807) : Calls Tryz.prog 7 #[.slice A ds.length c] w (SmallR2 ds w) := by
  have HD := Lib.hid h
  clear h
  go_enter Tryz.func7, Tryz.ntmps7
  go_wp2
  go_loopw [3, 4] (fun n i wr => Below w.heap.size w wr ∧ ∃ k m : Nat, k ≤ ds.length ∧ k ≤ 81 ∧ i = .int .i64 k ∧ n = .int .i64 m ∧ m ≤ 16000 ∧ ∀ j d, j < k → ds[j]? = some d → Few2 d.d) (fun _ i _ => ds.length - (intOf i).toNat)
  case atStart => exact ⟨Below.refl _ _, 0, 0, Nat.zero_le _, by omega, rfl, rfl, by omega, fun j d hj => absurd hj (by omega)⟩
  case round =>
    obtain ⟨hb, k, m, hk, hk1, rfl, rfl, hm, hall⟩ := hrel
    have HA := Lib.hid (And.intro hall hb)
    have hD := HD.out.below (hb.mono hBw)
    clear hall hb
    obtain ⟨wo, rfl⟩ : ∃ wo, wo = wr := ⟨wr, rfl⟩
    by_cases h1 : k < ds.length
    · have d1 : decide (k < ds.length) = true := by simpa using h1
      by_cases h2 : k ≤ 80
      · have d2 : decide ((k : Int) ≤ 80) = true := by simp; omega
        by_cases h3 : m ≤ 4000
        · have d3 : decide ((m : Int) ≤ 4000) = true := by simp; omega
          obtain ⟨x, hx⟩ : ∃ x, ds[k]? = some x := ⟨_, List.getElem?_eq_getElem h1⟩
          obtain ⟨ad, rfl, hadB, hX⟩ := hD k x hx
          obtain ⟨⟨kind, na, nb, nn, np, keep⟩, Ap, cp, Ak, ck⟩ := x
          have e0 : wo.cell? (ad.add (k * 6)) = some (.int .i64 kind) := hX.c0
          have e1 : wo.cell? ⟨(ad.add (k * 6)).block, (ad.add (k * 6)).off + 1, none⟩ = some (.string na) := hX.c1
          have e2 : wo.cell? ⟨(ad.add (k * 6)).block, (ad.add (k * 6)).off + 2, none⟩ = some (.string nb) := hX.c2
          have e3 : wo.cell? ⟨(ad.add (k * 6)).block, (ad.add (k * 6)).off + 3, none⟩ = some (.int .i64 nn) := hX.c3
          have e4 : wo.cell? ⟨(ad.add (k * 6)).block, (ad.add (k * 6)).off + 4, none⟩ = some (.slice Ap np.size cp) := hX.c4
          have e5 : wo.cell? ⟨(ad.add (k * 6)).block, (ad.add (k * 6)).off + 5, none⟩ = some (.slice Ak keep.length ck) := hX.c5
          have sa : na.size ≤ 140737488351232 := hX.sa
          have sb : nb.size ≤ 140737488351232 := hX.sb
          have sp : np.size ≤ 140737488351232 := hX.sp
          have sk : keep.length ≤ 140737488351232 := hX.sk
          have HX := Lib.hid (And.intro hx hX)
          clear hx hX hD
          have k0 : (0 : Int) ≤ (k : Int) := by omega
          have k1 : (k : Int) < (ds.length : Int) := by omega
          by_cases c1 : na.size + nb.size ≤ 4000
          · have qc1 : decide ((4000 : Int) < (na.size : Int) + (nb.size : Int)) = false := by simp; omega
            by_cases c2 : np.size ≤ 4000
            · have qc2 : decide ((4000 : Int) < (np.size : Int)) = false := by simp; omega
              by_cases c3 : keep.length ≤ 80
              · have qc3 : decide ((80 : Int) < (keep.length : Int)) = false := by simp; omega
                by_cases c4 : kind = 3
                · have qc4 : (kind == 3) = true := by simpa using c4
                  by_cases c5 : nn ≤ 100
                  · have qc5 : decide ((100 : Int) < nn) = false := by simp; omega
                    go_wp2
                    go_quiet (fail)
                    go_wp2
                    go_quiet (fail)
                    go_wp2
                    go_roundw
                    case rel => exact ⟨below_drewN HA.out.2 _, k + 1, m + na.size + nb.size + np.size, by omega, by omega, by go_num, by go_num, by omega, fun j d hj hd => by
                      by_cases e : j = k
                      · subst e; rw [HX.out.1] at hd; cases hd; exact ⟨⟨c1, c2, c3⟩, fun _ => .inl c5⟩
                      · exact HA.out.1 j d (by omega) hd⟩
                    case measure => simp [intOf]; omega
                  · have qc5 : decide ((100 : Int) < nn) = true := by simp; omega
                    by_cases c6 : nn ≤ 4096
                    · have qc6 : decide (nn ≤ 4096) = true := by simp; omega
                      go_wp2
                      go_quiet (fail)
                      go_wp2
                      go_ret
                      exact ⟨false, rfl, below_drewN HA.out.2 _, fun e => by cases e⟩
                    · have qc6 : decide (nn ≤ 4096) = false := by simp; omega
                      go_wp2
                      go_quiet (fail)
                      go_wp2
                      go_quiet (fail)
                      go_wp2
                      go_roundw
                      case rel => exact ⟨below_drewN HA.out.2 _, k + 1, m + na.size + nb.size + np.size, by omega, by omega, by go_num, by go_num, by omega, fun j d hj hd => by
                        by_cases e : j = k
                        · subst e; rw [HX.out.1] at hd; cases hd; exact ⟨⟨c1, c2, c3⟩, fun _ => .inr (by show (4096 : Int) < nn; omega)⟩
                        · exact HA.out.1 j d (by omega) hd⟩
                      case measure => simp [intOf]; omega
                · have qc4 : (kind == 3) = false := by simpa using c4
                  go_wp2
                  go_quiet (fail)
                  go_wp2
                  go_quiet (fail)
                  go_wp2
                  go_roundw
                  case rel => exact ⟨below_drewN HA.out.2 _, k + 1, m + na.size + nb.size + np.size, by omega, by omega, by go_num, by go_num, by omega, fun j d hj hd => by
                    by_cases e : j = k
                    · subst e; rw [HX.out.1] at hd; cases hd; exact ⟨⟨c1, c2, c3⟩, fun h => absurd h c4⟩
                    · exact HA.out.1 j d (by omega) hd⟩
                  case measure => simp [intOf]; omega
              · have qc3 : decide ((80 : Int) < (keep.length : Int)) = true := by simp; omega
                go_wp2
                go_quiet (fail)
                go_wp2
                go_ret
                exact ⟨false, rfl, below_drewN HA.out.2 _, fun e => by cases e⟩
            · have qc2 : decide ((4000 : Int) < (np.size : Int)) = true := by simp; omega
              go_wp2
              go_quiet (fail)
              go_wp2
              go_ret
              exact ⟨false, rfl, below_drewN HA.out.2 _, fun e => by cases e⟩
          · have qc1 : decide ((4000 : Int) < (na.size : Int) + (nb.size : Int)) = true := by simp; omega
            go_wp2
            go_quiet (fail)
            go_wp2
            go_ret
            exact ⟨false, rfl, below_drewN HA.out.2 _, fun e => by cases e⟩
        · have d3 : decide ((m : Int) ≤ 4000) = false := by simp; omega
          by_cases h5 : ds.length ≤ 80
          · have d5 : decide ((ds.length : Int) ≤ 80) = true := by simp; omega
            go_wp2
            go_ret
            exact ⟨false, rfl, HA.out.2, fun e => by cases e⟩
          · have d5 : decide ((ds.length : Int) ≤ 80) = false := by simp; omega
            go_wp2
            go_ret
            exact ⟨false, rfl, HA.out.2, fun e => by cases e⟩
      · have d2 : decide ((k : Int) ≤ 80) = false := by simp; omega
        have d5 : decide ((ds.length : Int) ≤ 80) = false := by simp; omega
        go_wp2
        go_ret
        exact ⟨false, rfl, HA.out.2, fun e => by cases e⟩
    · obtain rfl : k = ds.length := by omega
      have d1 : decide (ds.length < ds.length) = false := by simp
      by_cases h5 : ds.length ≤ 80
      · have d5 : decide ((ds.length : Int) ≤ 80) = true := by simp; omega
        by_cases h3 : m ≤ 4000
        · have d3 : decide ((m : Int) ≤ 4000) = true := by simp; omega
          go_wp2
          go_ret
          exact ⟨true, rfl, HA.out.2, fun _ => ⟨h5, fun d hd => by
            obtain ⟨j, hj, e⟩ := List.mem_iff_getElem.1 hd
            exact HA.out.1 j d hj (by rw [List.getElem?_eq_getElem hj, e])⟩⟩
        · have d3 : decide ((m : Int) ≤ 4000) = false := by simp; omega
          go_wp2
          go_ret
          exact ⟨false, rfl, HA.out.2, fun e => by cases e⟩
      · have d5 : decide ((ds.length : Int) ≤ 80) = false := by simp; omega
        go_wp2
        go_ret
        exact ⟨false, rfl, HA.out.2, fun e => by cases e⟩
end Go.Proofs.YtekajggjoeimoaaGreatDoor
set_option linter.unusedVariables false
namespace Go.Proofs.YtekajggjoeimoaaGreatDoor
open Go.RowKit
/-- The place of the first byte below 128. -/
def low : List UInt8 → Nat → Option Nat
  | [], _ => none
  | c :: l, i => if c.toNat < 128 then some i else low l (i + 1)
def lowI (l : List UInt8) : Int := match low l 0 with
  | some i => i
  | none => -1
theorem low_step : ∀ {l : List UInt8} {i k : Nat}, (∀ j y, j < k → l[j]? = some y → ¬ y.toNat < 128) → k ≤ l.length → low l i = low (l.drop k) (i + k)
  | l, i, 0, _, _ => by simp
  | [], i, k + 1, _, hk => by simp at hk
  | x :: l, i, k + 1, h, hk => by
    have h0 : low (x :: l) i = low l (i + 1) := if_neg (h 0 x (by omega) rfl)
    rw [h0, List.drop_succ_cons, low_step (i := i + 1) (k := k) (fun j y hj hy => h (j + 1) y (by omega) (by simpa using hy)) (by simpa using hk), show i + 1 + k = i + (k + 1) by omega]
theorem low_hit {k : Nat} {l : List UInt8} {y : UInt8} (h : ∀ j y, j < k → l[j]? = some y → ¬ y.toNat < 128) (hy : l[k]? = some y) (hq : y.toNat < 128) : lowI l = k := by
  have hk := (List.getElem?_eq_some_iff.1 hy).1
  have e : l.drop k = y :: l.drop (k + 1) := by
    rw [← (List.getElem?_eq_some_iff.1 hy).2, List.getElem_cons_drop]
  unfold lowI
  rw [low_step (i := 0) h (Nat.le_of_lt hk), e]
  unfold low
  rw [if_pos hq]
  simp
theorem low_none {l : List UInt8} (h : ∀ j y, j < l.length → l[j]? = some y → ¬ y.toNat < 128) : lowI l = -1 := by
  unfold lowI
  rw [low_step (i := 0) h (Nat.le_refl _), List.drop_length]
  rfl
set_option maxHeartbeats 1000000 in
theorem low_call (c : UInt8) (w : World) : Calls Tryz.prog 107 #[.int .u8 c.toNat] w fun e w' => e = .returned (.bool (decide (c.toNat < 128))) ∧ w = w' := by
  have e : decide ((c.toNat : Int) < 128) = decide (c.toNat < 128) := by
    by_cases h : c.toNat < 128
    · rw [decide_eq_true h, decide_eq_true (by omega)]
    · rw [decide_eq_false h, decide_eq_false (by omega)]
  go_enter Tryz.func107, Tryz.ntmps107
  go_wp2
  go_ret
  first
    | exact ⟨rfl, rfl⟩
    | exact ⟨by rw [← e], rfl⟩
set_option maxHeartbeats 2000000 in
set_option maxRecDepth 100000 in
theorem LowIndex_any {B : Nat} {w : World} (A : Option Addr) (c : Nat) (l : List UInt8) (hr : Reads w B 1 A l.length (bl l)) (hB : B ≤ w.heap.size) (hl : l.length ≤ 1000) :
    Calls Tryz.prog 106 #[.slice A l.length c, .func (.func 107) #[] #[]] w fun e w' => e = .returned (.int .i64 (lowI l)) ∧ Below w.heap.size w w' := by
  go_enter Tryz.func106, Tryz.ntmps106
  go_wp2
  go_loopw [8] (fun i wr => (∃ k, k ≤ l.length ∧ i = .int .i64 k ∧ (∀ j y, j < k → l[j]? = some y → ¬ y.toNat < 128)) ∧ Below w.heap.size w wr) (fun i _ => l.length - (intOf i).toNat)
  case atStart => exact ⟨⟨0, Nat.zero_le _, rfl, fun j y hj => by omega⟩, Below.refl _ _⟩
  case round =>
    obtain ⟨⟨k, hk, rfl, hno⟩, hB1⟩ := hrel
    have HNO := Lib.hid hno
    clear hno
    obtain ⟨wo, rfl⟩ : ∃ wo, wo = wr := ⟨wr, rfl⟩
    by_cases hlt : k < l.length
    · have d1 : decide (k < l.length) = true := by simpa using hlt
      obtain ⟨y, hy⟩ : ∃ y, l[k]? = some y := ⟨_, List.getElem?_eq_getElem hlt⟩
      obtain ⟨ad, u, rfl, _, hu, hcs⟩ := (hr.below (hB1.mono hB)).at_ hlt
      unfold bl at hu
      rw [List.getElem?_map, hy] at hu
      cases hu
      have i0 : (0 : Int) ≤ (k : Int) := by omega
      have i1 : (k : Int) < (l.length : Int) := by omega
      have hI := low_call y
      by_cases hq : y.toNat < 128
      · rw [decide_eq_true hq] at hI
        have HQ := Lib.hid (And.intro hq hy)
        clear hq hy
        go_wp2_with (go_at_call 107; refine (hI _).mono ?_; rintro e w9 ⟨rfl, rfl⟩)
        go_ret
        exact ⟨by rw [low_hit HNO.out HQ.out.2 HQ.out.1]; rfl, by first | exact hB1.drew | exact hB1⟩
      · rw [decide_eq_false hq] at hI
        have HQ := Lib.hid (And.intro hq hy)
        clear hq hy
        go_wp2_with (go_at_call 107; refine (hI _).mono ?_; rintro e w9 ⟨rfl, rfl⟩)
        go_roundw
        case rel => exact ⟨⟨k + 1, by omega, by go_num, fun j z hj hz => by
          by_cases e : j = k
          · subst e; rw [HQ.out.2] at hz; cases hz; exact HQ.out.1
          · exact HNO.out j z (by omega) hz⟩, by first | exact hB1.drew | exact hB1⟩
        case measure => simp [intOf]; omega
    · have d1 : decide (k < l.length) = false := by simpa using hlt
      have hk' : k = l.length := by omega
      have HK := Lib.hid hk'
      clear hk'
      go_wp2
      go_ret
      exact ⟨by rw [low_none (fun j y hj hy => HNO.out j y (by rw [HK.out]; exact hj) hy)]; rfl, hB1⟩
end Go.Proofs.YtekajggjoeimoaaGreatDoor
set_option linter.unusedVariables false
namespace Go.Proofs.YtekajggjoeimoaaGreatDoor
open Go.RowKit
set_option maxHeartbeats 1000000 in
set_option maxRecDepth 100000 in
theorem BClone_some {B n : Nat} (a : Addr) (c : Nat) (l : List Value) (h1 : ∀ u ∈ l, u.oneCell' = true) (w : World) (hr : Reads w B 1 (some a) n l) (hB : B ≤ w.heap.size) (hl : n ≤ 4000000) :
    Calls Tryz.prog 105 #[.slice (some a) n c] w fun e w' => ∃ A' c', e = .returned (.slice A' n c') ∧ w'.ownsRow w.heap.size 5 1 (.slice A' n c') n l ∧ Below w.heap.size w w' := by
  have hnil : ∀ W : World, (binOp .eql 36 (.slice (some a) n c) (.slice none 0 0)).run Tryz.prog W = .ok (.bool false) W := fun W => (by first | exact Lib.run_eql_slice_nil W 36 5 _ _ _ _ _ Tryz.underlying36 | exact Lib.run_eql_slice_nil W 36 5 _ _ _ _ Tryz.underlying36)
  go_enter Tryz.func105, Tryz.ntmps105
  go_wp2_with (at_builtin; refine list_push8 TBy rfl rfl w.heap.size rfl (own_emptyH _ _ _ rfl (Nat.le_refl _)) rfl (hr.alloc hB _) h1 (by omega) (by simp) (Nat.zero_add _) (List.nil_append _) ?_; intro A1 c1 w1 hown1 hg1 hat1)
  clear hnil
  go_ret
  exact ⟨A1, c1, rfl, hown1, ((Below.refl _ w).alloc (Nat.le_refl _) _).grown hg1 (by simp) (fun k e => by cases e; exact Nat.le_refl _)⟩
/-- What is known of vint.Get. -/
def VGetOK : Prop := ∀ {B : Nat} (A : Option Addr) (cc : Nat) (b : List UInt8) (w : World), B ≤ w.heap.size → Reads w B 1 A b.length (bl b) → b.length ≤ 3000000 → b.length ≤ cc →
    Calls Tryz.prog 92 #[.slice A b.length cc] w fun e w' => e = .returned (.tuple #[.int .u64 (getN b).1, .int .i64 (getN b).2.1, .int .i64 (getN b).2.2]) ∧ Below w.heap.size w w'
set_option maxHeartbeats 4000000 in
set_option maxRecDepth 100000 in
theorem VGetB_of (hV : VGetOK) {B : Nat} (A : Option Addr) (cc : Nat) (b : List UInt8) (w : World) (hB : B ≤ w.heap.size) (hr : Reads w B 1 A b.length (bl b)) (hl : b.length ≤ 3000000) (hcap : b.length ≤ cc) :
    Calls Tryz.prog 91 #[.slice A b.length cc] w fun e w' => ∃ v, e = .returned (.tuple #[v, .int .i64 (getB b).2.1, .int .i64 (getB b).2.2]) ∧ w'.ownsRow w.heap.size 5 1 v (getB b).1.length (bl (getB b).1) ∧ Below w.heap.size w w' := by
  have hG := hV A cc b w hB hr hl hcap
  have hpg : (getN b).2.2 = 0 → (getN b).2.1 ≤ b.length := fun h => (putN_getN h).2.1
  have hgb : getB b = if (getN b).2.2 ≠ 0 then ([], 0, (getN b).2.2) else if b.length - (getN b).2.1 < (getN b).1 then ([], 0, 10) else ((b.drop (getN b).2.1).take (getN b).1, (getN b).2.1 + (getN b).1, 0) := rfl
  have hk0' : (getN b).2.2 = 0 → 0 < (getN b).2.1 := fun h => (putN_getN h).2.2.1
  obtain ⟨⟨n, k, e⟩, hg⟩ : ∃ g, getN b = g := ⟨_, rfl⟩
  rw [hg] at hG hpg hgb hk0'
  dsimp only at hG hpg hgb hk0'
  clear hg
  by_cases he : e = 0
  · subst he
    have hk := hpg rfl
    clear hpg
    rw [if_neg (by simp)] at hgb
    have e1 : IntKind.u64.wrap ((b.length : Int) - (k : Int)) = ((b.length - k : Nat) : Int) := by rw [IntKind.wrap_u64]; omega
    by_cases hn : b.length - k < n
    · rw [if_pos hn] at hgb
      have d1 : decide (((b.length - k : Nat) : Int) < (n : Int)) = true := by simp; omega
      have HGB := Lib.hid hgb
      clear hgb
      go_enter Tryz.func91, Tryz.ntmps91
      go_wp2_with (go_at_call 92; refine hG.mono ?_; rintro e w1 ⟨rfl, hb⟩)
      go_ret3
      rw [HGB.out]
      exact ⟨_, rfl, World.ownsRow_nil _ _ _ _, hb⟩
    · rw [if_neg hn] at hgb
      have d1 : decide (((b.length - k : Nat) : Int) < (n : Int)) = false := by simp; omega
      have d1' : decide (b.length - k < n) = false := by simpa using hn
      have HGB := Lib.hid hgb
      clear hgb
      have hk0 : 0 < k := hk0' rfl
      obtain ⟨a, rfl⟩ : ∃ a, A = some a := by
        obtain ⟨a, e, _⟩ := hr.2 (by omega)
        exact ⟨a, e⟩
      have hsub : Reads w B 1 (some (a.add k)) n (bl ((b.drop k).take n)) := reads_sub (k := k) (n := n) hr (by omega)
      have e2 : IntKind.i64.wrap (n : Int) = (n : Nat) := by rw [IntKind.wrap_i64]; omega
      have hn9 : n ≤ 3000000 := by omega
      have hkn : k + n ≤ cc := by omega
      have hlen : ((b.drop k).take n).length = n := by rw [List.length_take, List.length_drop]; omega
      have HH := Lib.hid (And.intro hlen hn)
      clear hn hlen hk0'
      by_cases hkc : k < cc
      · go_enter Tryz.func91, Tryz.ntmps91
        go_wp2_with (first
          | (go_at_call 105; refine (BClone_some _ _ _ (bl_one _) w1 (hsub.below (hb.mono hB)) (Nat.le_trans hB hb.size) (by omega)).mono ?_; rintro e w2 ⟨A2, c2, rfl, ho2, hb2⟩)
          | (go_at_call 92; refine hG.mono ?_; rintro e w1 ⟨rfl, hb⟩))
        all_goals
          go_ret3
          rw [HGB.out]
          dsimp only
          rw [HH.out.1]
          exact ⟨_, rfl, own_le ho2 hb.size, hb.trans (hb2.mono hb.size)⟩
      · have hkc' : k = cc := by omega
        subst hkc'
        have hn0 : n = 0 := by omega
        subst hn0
        go_enter Tryz.func91, Tryz.ntmps91
        go_wp2_with (first
          | (go_at_call 105; refine (BClone_some (B := 0) _ _ [] (fun u hu => by cases hu) w1 ⟨by simp, fun h => absurd h (by omega)⟩ (Nat.zero_le _) (by omega)).mono ?_; rintro e w2 ⟨A2, c2, rfl, ho2, hb2⟩)
          | (go_at_call 92; refine hG.mono ?_; rintro e w1 ⟨rfl, hb⟩))
        all_goals
          go_ret3
          rw [HGB.out]
          exact ⟨_, rfl, own_le ho2 hb.size, hb.trans (hb2.mono hb.size)⟩
  · rw [if_pos he] at hgb
    have d1 : (e != 0) = true := by simpa using he
    have HGB := Lib.hid hgb
    clear hgb hpg
    go_enter Tryz.func91, Tryz.ntmps91
    go_wp2_with (go_at_call 92; refine hG.mono ?_; rintro e w1 ⟨rfl, hb⟩)
    go_ret3
    rw [HGB.out]
    exact ⟨_, rfl, World.ownsRow_nil _ _ _ _, hb⟩
end Go.Proofs.YtekajggjoeimoaaGreatDoor
set_option linter.unusedVariables false
namespace Go.Proofs.YtekajggjoeimoaaGreatDoor
open Go.RowKit
def backN : List UInt8 → Nat
  | [] => 0
  | c :: r => backN r * 128 + c.toNat % 128
theorem low_ge : ∀ (l : List UInt8) (i j : Nat), low l i = some j → i ≤ j ∧ j < i + l.length
  | [], i, j, h => by simp [low] at h
  | c :: l, i, j, h => by
    unfold low at h
    split at h
    · cases h; simp
    · have := low_ge l (i + 1) j h
      simp only [List.length_cons]
      omega
/-- Get in the program's words. -/
def getV (i f : Nat) (b : List UInt8) : Nat × Nat × Int := match low (b.take f) i with
  | none => if b.length < f then (0, 0, 10) else (0, 0, 11)
  | some j => if j = 9 ∧ 1 < (b.getD (j - i) 0).toNat then (0, 0, 11) else if 0 < j ∧ (b.getD (j - i) 0).toNat = 0 then (0, 0, 12) else (backN (b.take (j - i + 1)), j - i + 1, 0)
theorem getF_getV : ∀ (f i : Nat) (b : List UInt8), f + i = 10 → 0 < f → getF f i b = getV i f b
  | 0, _, _, _, h => absurd h (by omega)
  | f + 1, i, [], _, _ => by simp [getF, getV, low]
  | f + 1, i, c :: r, hf, _ => by
    have hc : c.toNat < 256 := c.toNat_lt
    by_cases h : c.toNat < 128
    · have e : low ((c :: r).take (f + 1)) i = some i := by rw [List.take_succ_cons, low, if_pos h]
      unfold getV
      rw [e, getF]
      simp only [Nat.sub_self, List.getD_cons_zero, if_pos h]
      by_cases h9 : i = 9 ∧ 1 < c.toNat
      · rw [if_pos h9, if_pos h9]
      · rw [if_neg h9, if_neg h9]
        by_cases h0 : 0 < i ∧ c.toNat = 0
        · rw [if_pos h0, if_pos h0]
        · rw [if_neg h0, if_neg h0]
          simp only [Nat.zero_add, List.take_succ_cons, List.take_zero, backN]
          rw [Nat.mod_eq_of_lt h]
          simp
    · have e : low ((c :: r).take (f + 1)) i = low (r.take f) (i + 1) := by rw [List.take_succ_cons, low, if_neg h]
      by_cases h9 : i = 9
      · have hf0 : f = 0 := by omega
        subst hf0
        unfold getV
        rw [e, getF, if_pos ⟨h9, by omega⟩]
        simp [low]
      · have ih := getF_getV f (i + 1) r (by omega) (by omega)
        unfold getV at ih ⊢
        rw [e, getF, if_neg (fun hh => h9 hh.1), if_neg h, ih]
        cases hl : low (r.take f) (i + 1) with
        | none =>
          by_cases hr : r.length < f
          · have hr' : (c :: r).length < f + 1 := by simp only [List.length_cons]; omega
            simp only [if_pos hr, if_pos hr']
            simp
          · have hr' : ¬ (c :: r).length < f + 1 := by simp only [List.length_cons]; omega
            simp only [if_neg hr, if_neg hr']
            simp
        | some j =>
          have hj := low_ge _ _ _ hl
          have ej : j - i = (j - (i + 1)) + 1 := by omega
          simp only
          rw [ej, List.getD_cons_succ]
          by_cases a1 : j = 9 ∧ 1 < (r.getD (j - (i + 1)) 0).toNat
          · simp only [if_pos a1]; simp
          · by_cases a2 : 0 < j ∧ (r.getD (j - (i + 1)) 0).toNat = 0
            · simp only [if_neg a1, if_pos a2]; simp
            · simp only [if_neg a1, if_neg a2, if_true, List.take_succ_cons, backN]
              refine Prod.ext ?_ rfl
              show c.toNat - 128 + 128 * _ = _ * 128 + c.toNat % 128
              omega
theorem getN_getV (b : List UInt8) : getN b = getV 0 10 b := getF_getV 10 0 b rfl (by omega)
end Go.Proofs.YtekajggjoeimoaaGreatDoor
set_option linter.unusedVariables false
namespace Go.Proofs.YtekajggjoeimoaaGreatDoor
open Go.RowKit Go.Shelf
attribute [local go_sem] Oper.semAt_some
/-- What has come when k rounds are over, from behind. -/
def back (b : List UInt8) (k : Nat) : List (Nat × UInt8) := (List.range k).map fun j => (b.length - 1 - j, b.getD (b.length - 1 - j) 0)
theorem back_succ (b : List UInt8) (k : Nat) : back b (k + 1) = back b k ++ [(b.length - 1 - k, b.getD (b.length - 1 - k) 0)] := by simp [back, List.range_succ]
theorem back_length (b : List UInt8) (k : Nat) : (back b k).length = k := by simp [back]
/-- What a round keeps: what lies below, and the iterator's box. -/
def KeepB (n₀ Bs : Nat) (A B : World) : Prop := Below n₀ A B ∧ B.cell? ⟨Bs, 0, none⟩ = A.cell? ⟨Bs, 0, none⟩
set_option maxRecDepth 100000 in
set_option maxHeartbeats 2000000 in
theorem back1_in (F : Fence) (n : Nat) (hF : F.fn 115) (hro : F.round = none) (hn : 1 ≤ n) (l Bs n₀ cap : Nat) (a : Addr) (b : List UInt8) (hreach : b.length ≤ 1000) (hb : a.block < n₀) (J Jx : List (Nat × UInt8) → World → Prop)
    (hY : ∀ pre x W, J pre W → pre.length < b.length → YieldAt F (n - 1) Tryz.prog l #[.int .i64 (x.1 : Int), .int .u8 (x.2.toNat : Int)] W fun e W' =>
      (e = .returned (.bool true) ∧ J (pre ++ [x]) W' ∧ KeepB n₀ Bs W W') ∨ (e = .returned (.bool false) ∧ Jx (pre ++ [x]) W'))
    (W : World) (hBs : W.cell? ⟨Bs, 0, none⟩ = some (.slice (some a) b.length cap)) (hc : ∀ j, j < b.length → W.cell? (a.add j) = some (.int .u8 ((b.getD j 0).toNat : Int))) (h0 : J [] W) :
    CallsIn F n Tryz.prog 115 #[.func (.yield l) #[] #[], .pointer (some ⟨Bs, 0, none⟩)] W fun e W' => (∃ v, e = .returned v) ∧
      ((∃ ys, ys = back b b.length ∧ J ys W') ∨ (∃ pre, (∃ k, k ≤ b.length ∧ pre = back b k) ∧ Jx pre W')) := by
  refine callsIn_of_wp Tryz.func115 rfl hF ?_ hro
  simp only [Tryz.ntmps115, List.size_toArray, List.length_cons, List.length_nil, Nat.reduceAdd, Nat.reduceSub, Array.replicate_succ, Array.replicate_zero, List.push_toArray, List.append_toArray, List.nil_append, List.cons_append]
  gi_wp2
  gi_loopw [3] (fun i wr => ∃ k : Nat, k ≤ b.length ∧ i = .int .i64 ((b.length : Int) - 1 - (k : Int)) ∧ J (back b k) wr ∧ KeepB n₀ Bs W wr)
    (fun i _ => (intOf i + 1).toNat)
  case atStart => exact ⟨0, Nat.zero_le _, by simp, h0, Below.refl _ _, rfl⟩
  case round =>
    obtain ⟨k, hk, rfl, hJs, hnx, hbx⟩ := hrel
    have hbs := hbx.trans hBs
    by_cases hlt : k < b.length
    · obtain ⟨m, hm⟩ : ∃ m, b.length - 1 - k = m := ⟨_, rfl⟩
      have e : (b.length : Int) - 1 - (k : Int) = (m : Nat) := by omega
      have hml : m < b.length := by omega
      obtain ⟨y, hyv⟩ : ∃ y, b.getD m 0 = y := ⟨_, rfl⟩
      obtain ⟨fn, tmps, assign, body, hy, hR⟩ := hY _ (m, y) wr hJs (by rw [back_length]; exact hlt)
      dsimp only at hy
      have hcx : wr.cell? (a.add m) = some (.int .u8 ((b.getD m 0).toNat : Int)) := (hnx.cell (p := a.add m) (by unfold Addr.add; split <;> exact hb)).trans (hc m hml)
      rw [hyv] at hcx
      have m0 : (0 : Int) ≤ (m : Int) := by omega
      have m1 : (m : Int) < (b.length : Int) := by omega
      have HB := Lib.hid hbx
      clear hbx
      have HM := Lib.hid (And.intro hm (And.intro e hyv))
      rw [e]
      clear hm e hml hyv
      gi_wp2
      refine hR.mono ?_
      rintro e W3 (⟨rfl, hJ3, hk3⟩ | ⟨rfl, hJx3⟩)
      · gi_wp2
        go_roundw
        case rel => exact ⟨k + 1, by omega, by have := HM.out.2.1; first | (congr 1; omega) | go_num, by rw [back_succ, HM.out.1, HM.out.2.2]; exact hJ3, hnx.trans hk3.1, hk3.2.trans HB.out⟩
        case measure => have := HM.out.2.1; first | (simp [intOf]; done) | (simp [intOf]; omega)
      · gi_wp2
        refine bodyPost_ret (results_none rfl _ _ _) rfl ?_
        exact ⟨⟨_, rfl⟩, .inr ⟨_, ⟨k + 1, by omega, by rw [back_succ, HM.out.1, HM.out.2.2]⟩, hJx3⟩⟩
    · obtain rfl : k = b.length := by omega
      have e : (b.length : Int) - 1 - (b.length : Int) = -1 := by omega
      rw [e]
      clear e
      gi_wp2
      go_end0
      exact ⟨⟨_, rfl⟩, .inl ⟨_, rfl, hJs⟩⟩
end Go.Proofs.YtekajggjoeimoaaGreatDoor
set_option linter.unusedVariables false
namespace Go.Proofs.YtekajggjoeimoaaGreatDoor
open Go.RowKit Go.Shelf
attribute [local go_sem] Oper.semAt_some
theorem back_stops (F : Fence) (n : Nat) (hF : F.fn 115) (hro : F.round = none) (hn : 1 ≤ n) (Bs n₀ cap : Nat) (a : Addr) (b : List UInt8) (hreach : b.length ≤ 1000) (w : World) (hBl : Bs < w.heap.size) (hn₀ : n₀ ≤ w.heap.size) (hb : a.block < n₀)
    (hBs : w.cell? ⟨Bs, 0, none⟩ = some (.slice (some a) b.length cap)) (hc : ∀ j, j < b.length → w.cell? (a.add j) = some (.int .u8 ((b.getD j 0).toNat : Int))) :
    SeqStopsK F n Tryz.prog 115 #[.pointer (some ⟨Bs, 0, none⟩)] (fun x : Nat × UInt8 => #[Value.int .i64 (x.1 : Int), Value.int .u8 (x.2.toNat : Int)]) (KeepB n₀ Bs) (fun ys => ys = back b b.length)
      (fun pre => ∃ k, k ≤ b.length ∧ pre = back b k) b.length w := fun l J Jx W hW _ _ hY h0 => by
  have hBs' := (hW.cell (p := ⟨Bs, 0, none⟩) hBl).trans hBs
  have hc' : ∀ j, j < b.length → W.cell? (a.add j) = some (.int .u8 ((b.getD j 0).toNat : Int)) := fun j hj => (hW.cell (p := a.add j) (by unfold Addr.add; split <;> exact Nat.lt_of_lt_of_le hb hn₀)).trans (hc j hj)
  exact back1_in F n hF hro hn l Bs n₀ cap a b hreach hb J Jx hY W hBs' hc' h0
set_option maxHeartbeats 1000000 in
/-- Backward lays the slice into a box; its closure holds that. -/
theorem back_go (A : Option Addr) (n c : Nat) (w : World) : Calls Tryz.prog 108 #[.slice A n c] w fun e w' => e = .returned (.func (.func 115) #[] #[.pointer (some ⟨w.heap.size, 0, none⟩)]) ∧ w' = w.alloc (.cells #[.slice A n c] 36) := by
  go_enter Tryz.func108, Tryz.ntmps108
  go_wp2
  go_ret
  exact ⟨rfl, rfl⟩
/-- The number, as the rounds make it. -/
def accN (pre : List (Nat × UInt8)) : Nat := pre.foldl (fun n x => n * 128 + x.2.toNat % 128) 0
theorem accN_snoc (pre : List (Nat × UInt8)) (x : Nat × UInt8) : accN (pre ++ [x]) = accN pre * 128 + x.2.toNat % 128 := by simp [accN]
theorem backN_acc (b : List UInt8) : ∀ k, k ≤ b.length → accN (back b k) = backN (b.drop (b.length - k))
  | 0, _ => by simp [back, accN, backN]
  | k + 1, h => by
    rw [back_succ, accN_snoc, backN_acc b k (by omega)]
    have hlt : b.length - 1 - k < b.length := by omega
    have e : b.drop (b.length - (k + 1)) = b[b.length - 1 - k] :: b.drop (b.length - k) := by
      rw [show b.length - (k + 1) = b.length - 1 - k by omega, show b.length - k = b.length - 1 - k + 1 by omega, List.getElem_cons_drop]
    rw [e, backN]
    have e2 : b.getD (b.length - 1 - k) 0 = b[b.length - 1 - k] := by rw [List.getD_eq_getElem?_getD, List.getElem?_eq_getElem hlt]; rfl
    rw [e2]
theorem backN_all (b : List UInt8) : accN (back b b.length) = backN b := by
  rw [backN_acc b b.length (Nat.le_refl _), Nat.sub_self, List.drop_zero]
theorem backN_lt : ∀ (b : List UInt8), backN b < 128 ^ b.length
  | [] => by simp [backN]
  | c :: r => by
    have := backN_lt r
    rw [backN, List.length_cons, Nat.pow_succ]
    omega
theorem keepB_t {n₀ Bs : Nat} {A B C : World} (h : KeepB n₀ Bs A B) (h2 : KeepB n₀ Bs B C) : KeepB n₀ Bs A C := ⟨h.1.trans h2.1, h2.2.trans h.2⟩
end Go.Proofs.YtekajggjoeimoaaGreatDoor
set_option linter.unusedVariables false
namespace Go.Proofs.YtekajggjoeimoaaGreatDoor
open Go.RowKit Go.Shelf
attribute [local go_sem] Oper.semAt_some
theorem reads_take {B : Nat} {w : World} {A : Option Addr} {b : List UInt8} {n : Nat} (h : Reads w B 1 A b.length (bl b)) (hn : n ≤ b.length) : Reads w B 1 A n (bl (b.take n)) := by
  refine ⟨by rw [bl_len, List.length_take]; omega, fun h0 => ?_⟩
  obtain ⟨a, e, h1, h2⟩ := h.2 (by omega)
  refine ⟨a, e, h1, fun j x hj => h2 j x ?_⟩
  unfold bl at hj ⊢
  rw [List.getElem?_map] at hj ⊢
  rw [List.getElem?_take] at hj
  split at hj
  · exact hj
  · simp at hj
set_option maxHeartbeats 4000000 in
set_option maxRecDepth 100000 in
/-- No byte below 128, fewer than ten. -/
theorem VGet_short {B : Nat} (A : Option Addr) (cc : Nat) (b : List UInt8) (w : World) (hB : B ≤ w.heap.size) (hr : Reads w B 1 A b.length (bl b)) (hcap : b.length ≤ cc) (hl : b.length < 10) (hi : low b 0 = none) :
    Calls Tryz.prog 92 #[.slice A b.length cc] w fun e w' => e = .returned (.tuple #[.int .u64 0, .int .i64 0, .int .i64 10]) ∧ Below w.heap.size w w' := by
  have hI := LowIndex_any A cc b hr hB (by omega)
  have e : lowI b = -1 := by unfold lowI; rw [hi]
  rw [e] at hI
  have hmin : min (b.length : Int) 10 = (b.length : Int) := by omega
  have b1 : (b.length : Int) < 10 := by omega
  refine (callsIn_wide (n := 3)).1 ?_
  refine callsIn_of_wp_marks Tryz.func92 rfl trivial ?_ rfl
  simp only [Tryz.ntmps92, List.size_toArray, List.length_cons, List.length_nil, Nat.reduceAdd, Nat.reduceSub, Array.replicate_succ, Array.replicate_zero, List.push_toArray, List.append_toArray, List.nil_append, List.cons_append]
  gi_wp2_with (refine ⟨trivial, ?_⟩; gi_at_call 106; refine (callsIn_wide.2 hI).mono ?_; rintro e w1 ⟨rfl, hb⟩)
  refine ⟨_, results_tmp3 rfl _ _ _, ?_⟩
  exact ⟨rfl, hb⟩
set_option maxHeartbeats 4000000 in
set_option maxRecDepth 100000 in
/-- No byte below 128 in ten. -/
theorem VGet_wide {B : Nat} (A : Option Addr) (cc : Nat) (b : List UInt8) (w : World) (hB : B ≤ w.heap.size) (hr : Reads w B 1 A b.length (bl b)) (hcap : b.length ≤ cc) (hl : 10 ≤ b.length) (hi : low (b.take 10) 0 = none) :
    Calls Tryz.prog 92 #[.slice A b.length cc] w fun e w' => e = .returned (.tuple #[.int .u64 0, .int .i64 0, .int .i64 11]) ∧ Below w.heap.size w w' := by
  have hl10 : (b.take 10).length = 10 := by rw [List.length_take]; omega
  have hI := LowIndex_any A cc (b.take 10) (by rw [hl10]; exact reads_take hr hl) hB (by omega)
  have e : lowI (b.take 10) = -1 := by unfold lowI; rw [hi]
  rw [e, hl10] at hI
  have hmin : min (b.length : Int) 10 = 10 := by omega
  have b0 : 10 ≤ cc := by omega
  clear hi e hl10
  refine (callsIn_wide (n := 3)).1 ?_
  refine callsIn_of_wp_marks Tryz.func92 rfl trivial ?_ rfl
  simp only [Tryz.ntmps92, List.size_toArray, List.length_cons, List.length_nil, Nat.reduceAdd, Nat.reduceSub, Array.replicate_succ, Array.replicate_zero, List.push_toArray, List.append_toArray, List.nil_append, List.cons_append]
  gi_wp2_with (refine ⟨trivial, ?_⟩; gi_at_call 106; refine (callsIn_wide.2 hI).mono ?_; rintro e w1 ⟨rfl, hb⟩)
  refine ⟨_, results_tmp3 rfl _ _ _, ?_⟩
  exact ⟨rfl, hb⟩
set_option maxHeartbeats 4000000 in
set_option maxRecDepth 100000 in
/-- A byte below 128 at j, that is 0 behind others. -/
theorem VGet_form {B : Nat} (a : Addr) (cc L j : Nat) (b : List UInt8) (w : World) (hB : B ≤ w.heap.size) (hr : Reads w B 1 (some a) b.length (bl b)) (hcap : b.length ≤ cc) (hL : L = min b.length 10) (hi : low (b.take 10) 0 = some j) (hj : 0 < j) (h0 : (b.getD j 0).toNat = 0) :
    Calls Tryz.prog 92 #[.slice (some a) b.length cc] w fun e w' => e = .returned (.tuple #[.int .u64 0, .int .i64 0, .int .i64 12]) ∧ Below w.heap.size w w' := by
  have hl10 : (b.take 10).length = L := by rw [List.length_take]; omega
  have hI := LowIndex_any (some a) cc (b.take 10) (by rw [hl10]; have := reads_take (n := L) hr (by omega); rwa [show b.take L = b.take 10 by rw [hL, Nat.min_comm, ← List.take_take, List.take_length]] at this) hB (by omega)
  have e : lowI (b.take 10) = j := by unfold lowI; rw [hi]
  rw [e, hl10] at hI
  have hjl := (low_ge _ _ _ hi).2
  rw [hl10] at hjl
  have hmin : min (b.length : Int) 10 = (L : Int) := by omega
  have hjb : j < b.length := by omega
  have hc : w.cell? (a.add j) = some (.int .u8 0) := by
    obtain ⟨a', e', _, h2⟩ := hr.2 (by omega)
    cases e'
    rw [h2 j (.int .u8 ((b.getD j 0).toNat : Int)) (by unfold bl; rw [List.getElem?_map, List.getElem?_eq_getElem hjb, List.getD_eq_getElem?_getD, List.getElem?_eq_getElem hjb]; rfl), h0]
    rfl
  have b0 : L ≤ cc := by omega
  have b1 : L ≤ b.length := by omega
  have j0 : (0 : Int) ≤ (j : Int) := by omega
  have j1 : (j : Int) < (L : Int) := by omega
  have j2 : ¬ (j : Int) < 0 := by omega
  have j3 : (0 : Int) < (j : Int) := by omega
  have hcw : ∀ W, Below w.heap.size w W → W.cell? (a.add j) = some (.int .u8 0) := fun W hW => (hW.cell (World.block_lt_of_cell? w _ hc)).trans hc
  clear hi e hl10 hL hjb h0
  refine (callsIn_wide (n := 3)).1 ?_
  refine callsIn_of_wp_marks Tryz.func92 rfl trivial ?_ rfl
  simp only [Tryz.ntmps92, List.size_toArray, List.length_cons, List.length_nil, Nat.reduceAdd, Nat.reduceSub, Array.replicate_succ, Array.replicate_zero, List.push_toArray, List.append_toArray, List.nil_append, List.cons_append]
  by_cases h9 : j = 9
  · subst h9
    gi_wp2_with (refine ⟨trivial, ?_⟩; gi_at_call 106; refine (callsIn_wide.2 hI).mono ?_; rintro e w1 ⟨rfl, hb⟩; have hcx := hcw w1 hb; have hcz : w1.cell? ⟨a.block, a.off + 9, none⟩ = some (.int .u8 0) := (by simpa [Addr.add] using hcx))
    refine ⟨_, results_tmp3 rfl _ _ _, ?_⟩
    exact ⟨rfl, hb⟩
  · have d9 : ¬ (j : Int) = 9 := by omega
    gi_wp2_with (refine ⟨trivial, ?_⟩; gi_at_call 106; refine (callsIn_wide.2 hI).mono ?_; rintro e w1 ⟨rfl, hb⟩; have hcx := hcw w1 hb)
    refine ⟨_, results_tmp3 rfl _ _ _, ?_⟩
    exact ⟨rfl, hb⟩
set_option maxHeartbeats 4000000 in
set_option maxRecDepth 100000 in
/-- The tenth byte is above 1. -/
theorem VGet_nine {B : Nat} (a : Addr) (cc : Nat) (b : List UInt8) (w : World) (hB : B ≤ w.heap.size) (hr : Reads w B 1 (some a) b.length (bl b)) (hcap : b.length ≤ cc) (hl : 10 ≤ b.length) (hi : low (b.take 10) 0 = some 9) {y : Nat} (hy : (b.getD 9 0).toNat = y) (h1 : 1 < y) :
    Calls Tryz.prog 92 #[.slice (some a) b.length cc] w fun e w' => e = .returned (.tuple #[.int .u64 0, .int .i64 0, .int .i64 11]) ∧ Below w.heap.size w w' := by
  have hl10 : (b.take 10).length = 10 := by rw [List.length_take]; omega
  have hI := LowIndex_any (some a) cc (b.take 10) (by rw [hl10]; exact reads_take hr hl) hB (by omega)
  have e : lowI (b.take 10) = 9 := by unfold lowI; rw [hi]; rfl
  rw [e, hl10] at hI
  have hmin : min (b.length : Int) 10 = 10 := by omega
  have hc : w.cell? (a.add 9) = some (.int .u8 (y : Nat)) := by
    obtain ⟨a', e', _, h2⟩ := hr.2 (by omega)
    cases e'
    rw [h2 9 (.int .u8 ((b.getD 9 0).toNat : Int)) (by unfold bl; rw [List.getElem?_map, List.getElem?_eq_getElem (by omega), List.getD_eq_getElem?_getD, List.getElem?_eq_getElem (by omega)]; rfl), hy]
  have b0 : 10 ≤ cc := by omega
  have y1 : (1 : Int) < (y : Int) := by omega
  have hcw : ∀ W, Below w.heap.size w W → W.cell? (a.add 9) = some (.int .u8 (y : Nat)) := fun W hW => (hW.cell (World.block_lt_of_cell? w _ hc)).trans hc
  clear hi e hl10 hy
  refine (callsIn_wide (n := 3)).1 ?_
  refine callsIn_of_wp_marks Tryz.func92 rfl trivial ?_ rfl
  simp only [Tryz.ntmps92, List.size_toArray, List.length_cons, List.length_nil, Nat.reduceAdd, Nat.reduceSub, Array.replicate_succ, Array.replicate_zero, List.push_toArray, List.append_toArray, List.nil_append, List.cons_append]
  gi_wp2_with (refine ⟨trivial, ?_⟩; gi_at_call 106; refine (callsIn_wide.2 hI).mono ?_; rintro e w1 ⟨rfl, hb⟩; have hcx := hcw w1 hb; have hcz : w1.cell? ⟨a.block, a.off + 9, none⟩ = some (.int .u8 (y : Nat)) := (by simpa [Addr.add] using hcx))
  refine ⟨_, results_tmp3 rfl _ _ _, ?_⟩
  exact ⟨rfl, hb⟩
end Go.Proofs.YtekajggjoeimoaaGreatDoor
set_option linter.unusedVariables false
namespace Go.Proofs.YtekajggjoeimoaaGreatDoor
open Go.RowKit Go.Shelf
attribute [local go_sem] Oper.semAt_some
theorem step_bits (n c : Nat) (hn : n < 144115188075855872) (hc : c < 256) : bits .or .u64 (IntKind.u64.wrap ((n : Int) * 128)) (IntKind.u64.wrap (bits .and .u8 (c : Int) 127)) = ((n * 128 + c % 128 : Nat) : Int) := by
  have e1 : bits .and .u8 (c : Int) 127 = ((c % 128 : Nat) : Int) := by
    have h := (bits_nat .u8 8 (by decide) (fun n h0 h1 => by rw [IntKind.wrap_u8]; omega) c 127 hc (by decide)).1
    have h2 := Nat.and_two_pow_sub_one_eq_mod c 7
    rw [show (2 : Nat) ^ 7 - 1 = 127 from rfl, show (2 : Nat) ^ 7 = 128 from rfl] at h2
    rw [h2] at h
    exact h
  have e2 : IntKind.u64.wrap ((n : Int) * 128) = ((n * 128 : Nat) : Int) := by rw [IntKind.wrap_u64]; omega
  have e3 : IntKind.u64.wrap ((c % 128 : Nat) : Int) = ((c % 128 : Nat) : Int) := by rw [IntKind.wrap_u64]; omega
  rw [e1, e3, e2]
  have h := bits_or_u64_nat (n * 128) (c % 128) (by omega) (by omega)
  have h2 := Nat.two_pow_add_eq_or_of_lt (i := 7) (b := c % 128) (by omega) n
  rw [h, show n * 128 = 2 ^ 7 * n by omega, ← h2]
theorem step_mod (n c m : Nat) (hm : m = n % 18446744073709551616) (hc : c < 256) : bits .or .u64 (IntKind.u64.wrap ((m : Int) * 128)) (IntKind.u64.wrap (bits .and .u8 (c : Int) 127)) = (((n * 128 + c % 128) % 18446744073709551616 : Nat) : Int) := by
  have h := step_bits (m % 144115188075855872) c (by omega) hc
  have e : IntKind.u64.wrap ((m : Int) * 128) = IntKind.u64.wrap (((m % 144115188075855872 : Nat) : Int) * 128) := by rw [IntKind.wrap_u64, IntKind.wrap_u64]; omega
  rw [e, h]
  congr 1
  omega
/-- The number in the program's variable. -/
def accM (pre : List (Nat × UInt8)) : Nat := accN pre % 18446744073709551616
theorem accM_step (pre : List (Nat × UInt8)) (x : Nat × UInt8) : bits .or .u64 (IntKind.u64.wrap ((accM pre : Int) * 128)) (IntKind.u64.wrap (bits .and .u8 (x.2.toNat : Int) 127)) = ((accM (pre ++ [x]) : Nat) : Int) := by
  unfold accM
  rw [accN_snoc]
  exact step_mod (accN pre) x.2.toNat _ rfl x.2.toNat_lt
theorem backN_snoc (c : UInt8) : ∀ (l : List UInt8), backN (l ++ [c]) = backN l + 128 ^ l.length * (c.toNat % 128)
  | [] => by simp [backN]
  | d :: l => by
    have h := backN_snoc c l
    rw [List.cons_append, backN, h, backN, List.length_cons, Nat.pow_succ]
    generalize 128 ^ l.length = p
    rw [Nat.add_mul, Nat.mul_right_comm, Nat.mul_comm p 128, Nat.mul_assoc 128, Nat.mul_comm 128 (p * _)]
    omega
theorem backN_fit (b : List UInt8) (h : b.length ≤ 9) : backN b < 18446744073709551616 := by
  have h1 := backN_lt b
  have h2 : 128 ^ b.length ≤ 128 ^ 9 := Nat.pow_le_pow_right (by decide) h
  have : (128 : Nat) ^ 9 = 9223372036854775808 := by decide
  omega
theorem backN_fit10 (b : List UInt8) (h : 9 < b.length) (h1 : (b.getD 9 0).toNat ≤ 1) : backN (b.take 10) < 18446744073709551616 := by
  have e : b.take 10 = b.take 9 ++ [b.getD 9 0] := by
    rw [List.take_add_one (i := 9), List.getD_eq_getElem?_getD, List.getElem?_eq_getElem h]
    rfl
  have l9 : (b.take 9).length = 9 := by rw [List.length_take]; omega
  rw [e, backN_snoc, l9]
  have h3 := backN_lt (b.take 9)
  rw [l9] at h3
  have : (128 : Nat) ^ 9 = 9223372036854775808 := by decide
  rw [this] at h3 ⊢
  omega
theorem reads_cell {B : Nat} {a : Addr} {b : List UInt8} {w : World} (hr : Reads w B 1 (some a) b.length (bl b)) (j : Nat) (hj : j < b.length) : w.cell? (a.add j) = some (.int .u8 ((b.getD j 0).toNat : Nat)) := by
  obtain ⟨a', e', _, h2⟩ := hr.2 (by omega)
  cases e'
  exact h2 j (.int .u8 ((b.getD j 0).toNat : Int)) (by unfold bl; rw [List.getElem?_map, List.getElem?_eq_getElem hj, List.getD_eq_getElem?_getD, List.getElem?_eq_getElem hj]; rfl)
theorem reads_low {B : Nat} {a : Addr} {b : List UInt8} {w : World} (hr : Reads w B 1 (some a) b.length (bl b)) (hj : 0 < b.length) : a.block < w.heap.size := by
  have := World.block_lt_of_cell? w _ (reads_cell hr 0 hj)
  unfold Addr.add at this
  split at this <;> exact this
set_option maxHeartbeats 4000000 in
set_option maxRecDepth 100000 in
theorem VGet_go {B : Nat} (a : Addr) (cc L j y : Nat) (b : List UInt8) (w : World) (hB : B ≤ w.heap.size) (hr : Reads w B 1 (some a) b.length (bl b)) (hcap : b.length ≤ cc) (hL : L = min b.length 10) (hi : low (b.take 10) 0 = some j) (hj : 0 < j) (hj9 : j ≠ 9) (hy : (b.getD j 0).toNat = y) (h0 : y ≠ 0) :
    Calls Tryz.prog 92 #[.slice (some a) b.length cc] w fun e w' => e = .returned (.tuple #[.int .u64 (backN (b.take (j + 1)) : Nat), .int .i64 ((j : Int) + 1), .int .i64 0]) ∧ Below w.heap.size w w' := by
  have hl10 : (b.take 10).length = L := by rw [List.length_take]; omega
  have hI := LowIndex_any (some a) cc (b.take 10) (by rw [hl10]; have := reads_take (n := L) hr (by omega); rwa [show b.take L = b.take 10 by rw [hL, Nat.min_comm, ← List.take_take, List.take_length]] at this) hB (by omega)
  have e : lowI (b.take 10) = j := by unfold lowI; rw [hi]
  rw [e, hl10] at hI
  have hjl := (low_ge _ _ _ hi).2
  rw [hl10] at hjl
  have hmin : min (b.length : Int) 10 = (L : Int) := by omega
  have hjb : j < b.length := by omega
  have hc : w.cell? (a.add j) = some (.int .u8 (y : Nat)) := by rw [← hy]; exact reads_cell hr j hjb
  have haw := reads_low hr (by omega)
  have hbn := backN_fit (b.take (j + 1)) (by rw [List.length_take]; omega)
  have b0 : L ≤ cc := by omega
  have b1 : L ≤ b.length := by omega
  have j0 : (0 : Int) ≤ (j : Int) := by omega
  have j1 : (j : Int) < (L : Int) := by omega
  have j2 : ¬ (j : Int) < 0 := by omega
  have j3 : (0 : Int) < (j : Int) := by omega
  have j4 : j + 1 ≤ cc := by omega
  have y0 : ¬ (y : Int) = 0 := by omega
  have hcw : ∀ W, Below w.heap.size w W → W.cell? (a.add j) = some (.int .u8 (y : Nat)) := fun W hW => (hW.cell (World.block_lt_of_cell? w _ hc)).trans hc
  have d9 : ¬ (j : Int) = 9 := by omega
  clear hi e hl10 hL hy h0
  refine (callsIn_wide (n := 3)).1 ?_
  refine callsIn_of_wp_marks Tryz.func92 rfl trivial ?_ rfl
  simp only [Tryz.ntmps92, List.size_toArray, List.length_cons, List.length_nil, Nat.reduceAdd, Nat.reduceSub, Array.replicate_succ, Array.replicate_zero, List.push_toArray, List.append_toArray, List.nil_append, List.cons_append]
  gi_wp2_with (first
    | (refine ⟨trivial, ?_⟩; gi_at_call 108; refine (callsIn_wide.2 (back_go _ _ _ _)).mono ?_; rintro e w2 ⟨rfl, rfl⟩)
    | (refine ⟨trivial, ?_⟩; gi_at_call 106; refine (callsIn_wide.2 hI).mono ?_; rintro e w1 ⟨rfl, hb⟩; have hcx := hcw w1 hb))
  have hlen : (b.take (j + 1)).length = (j + 1) := by rw [List.length_take]; omega
  have hW2 : Below w.heap.size w ((w1.alloc (.cells #[.int .u64 0] 124)).alloc (.cells #[.slice (some a) (j + 1) cc] 36)) := (hb.alloc hb.size _).alloc (by have := hb.size; simp; omega) _
  have hcs : ∀ i, i < (b.take (j + 1)).length → ((w1.alloc (.cells #[.int .u64 0] 124)).alloc (.cells #[.slice (some a) (j + 1) cc] 36)).cell? (a.add i) = some (.int .u8 (((b.take (j + 1)).getD i 0).toNat : Int)) := fun i hi => by
    obtain ⟨a', e', _, h2⟩ := hr.2 (by omega)
    cases e'
    have hib : i < b.length := by omega
    have := h2 i (.int .u8 ((b.getD i 0).toNat : Int)) (by unfold bl; rw [List.getElem?_map, List.getElem?_eq_getElem hib, List.getD_eq_getElem?_getD, List.getElem?_eq_getElem hib]; rfl)
    rw [hW2.cell (p := a.add i) (World.block_lt_of_cell? w _ this), this]
    congr 3
    rw [List.getD_eq_getElem?_getD, List.getD_eq_getElem?_getD, List.getElem?_take, if_pos (by omega)]
  have hst := back_stops Fence.wide 2 trivial rfl (by omega) (w1.heap.size + 1) w1.heap.size cc a (b.take (j + 1)) (by omega) _ (by simp) (by simp; omega) (Nat.lt_of_lt_of_le haw hb.size) (by
    have := Blk.new (w1.alloc (.cells #[.int .u64 0] 124)) 36 #[.slice (some a) (j + 1) cc]
    rw [hlen]
    have h := this.cell 0
    simp) hcs
  have hKb : ∀ (W : World) (l : Nat) (o o' : Obj), w1.heap.size + 1 + 1 ≤ l → W.heap[l]? = some o → o.isCells = false → o.isWalk = false → KeepB w1.heap.size (w1.heap.size + 1) W (W.putObj l o') := fun W l o o' hl ho h1 h2 =>
    ⟨Below.mono (belowK_b (w := w1) (Nat.le_refl _) W l o o' (by omega) ho h1 h2) (Nat.le_refl _), by
      have hlt : l < W.heap.size := (Array.getElem?_eq_some_iff.1 ho).1
      simp [World.putObj, World.cell?, Array.getElem?_setIfInBounds, show l ≠ w1.heap.size + 1 by omega]⟩
  have hAcc := backN_all (b.take (j + 1))
  rw [hlen] at hAcc
  refine' wpIn_rangeFunc_ownG rfl (by omega) (gf := 115) (lb := #[.pointer (some ⟨w1.heap.size + 1, 0, none⟩)]) rfl trivial (enters_of Tryz.func115 (by kernel_rfl) rfl) hst keepB_t ?hkb (Below.refl _ _) (fun _ => rfl)
    (fun pre W => (W.cell? ⟨w1.heap.size, 0, none⟩ = some (.int .u64 (accM pre : Nat)) ∧ W.frozen? ⟨w1.heap.size, 0, none⟩ = false) ∧ Below w.heap.size w W)
    (fun _ _ _ => False) ?hi ?hix ?h0 _ ?assign ?body ?done ?stop
  case hkb => exact fun W l o o' hl => hKb W l o o' (by simpa using hl)
  case hi => exact OwnFrom.and (Own.from (fun s A B row hs hg hr => ⟨cell_kept hs.1 hg hr, (frozen_kept hs.1 hg hr).trans hs.2⟩) _) (ownFrom_below (Nat.le_refl _) (by have := hb.size; simp; omega))
  case hix => exact fun _ _ _ _ _ hs _ _ => hs
  case h0 =>
    have bS := Boxed.new w1 124 (.int .u64 0)
    exact ⟨⟨(bS.alloc _).cell, (bS.alloc _).frozen⟩, hW2⟩
  case assign =>
    intro l x W K hK
    gi_wp2
    exact hK
  case body =>
    rintro l pre x W ⟨⟨hca, hfa⟩, hBa⟩ hp
    have hv := accM_step pre x
    gi_wp2
    exact ⟨(KeepsOthers.setCell _ _ _).from _, ⟨(Below.refl w1.heap.size W).setCell (p := ⟨w1.heap.size, 0, none⟩) (Nat.le_refl _) _, World.cell?_setCell_far _ _ _ _ (by simp)⟩, ⟨by exact World.cell?_setCell_same' _ _ _ (by rw [hca]; rfl), by rw [World.frozen?_setCell]; exact hfa⟩, hBa.setCell (p := ⟨w1.heap.size, 0, none⟩) hb.size _⟩
  case done =>
    rintro D ys W hD rfl ⟨⟨hca, _⟩, hBa⟩ hK
    gi_wp2
    refine ⟨by simp, .inl ⟨_, _, rfl, run_takeDeferred hK, ?_⟩⟩
    refine ⟨_, results_tmp3 rfl _ _ _, ?_, hBa.trans (belowK_b (w := w) (Nat.le_refl _) W D _ _ (by have := hb.size; simp at hD; omega) hK rfl rfl)⟩
    rw [← hAcc, ← show accM _ = accN _ from Nat.mod_eq_of_lt (by rw [hAcc]; exact hbn)]
    rfl
  case stop =>
    rintro D c pre W _ _ h _
    exact h.elim
set_option maxHeartbeats 4000000 in
set_option maxRecDepth 100000 in
theorem VGet_one {B : Nat} (a : Addr) (cc L : Nat) (b : List UInt8) (w : World) (hB : B ≤ w.heap.size) (hr : Reads w B 1 (some a) b.length (bl b)) (hcap : b.length ≤ cc) (hL : L = min b.length 10) (hi : low (b.take 10) 0 = some 0) :
    Calls Tryz.prog 92 #[.slice (some a) b.length cc] w fun e w' => e = .returned (.tuple #[.int .u64 (backN (b.take 1) : Nat), .int .i64 1, .int .i64 0]) ∧ Below w.heap.size w w' := by
  have hl10 : (b.take 10).length = L := by rw [List.length_take]; omega
  have hI := LowIndex_any (some a) cc (b.take 10) (by rw [hl10]; have := reads_take (n := L) hr (by omega); rwa [show b.take L = b.take 10 by rw [hL, Nat.min_comm, ← List.take_take, List.take_length]] at this) hB (by omega)
  have e : lowI (b.take 10) = 0 := by unfold lowI; rw [hi]; rfl
  rw [e, hl10] at hI
  have hjl := (low_ge _ _ _ hi).2
  rw [hl10] at hjl
  have hmin : min (b.length : Int) 10 = (L : Int) := by omega
  have hjb : 0 < b.length := by omega
  have haw := reads_low hr (by omega)
  have hbn := backN_fit (b.take 1) (by rw [List.length_take]; omega)
  have b0 : L ≤ cc := by omega
  have b1 : L ≤ b.length := by omega
  have j1 : (0 : Int) < (L : Int) := by omega
  have j4 : 1 ≤ cc := by omega
  clear hi e hl10 hL
  refine (callsIn_wide (n := 3)).1 ?_
  refine callsIn_of_wp_marks Tryz.func92 rfl trivial ?_ rfl
  simp only [Tryz.ntmps92, List.size_toArray, List.length_cons, List.length_nil, Nat.reduceAdd, Nat.reduceSub, Array.replicate_succ, Array.replicate_zero, List.push_toArray, List.append_toArray, List.nil_append, List.cons_append]
  gi_wp2_with (first
    | (refine ⟨trivial, ?_⟩; gi_at_call 108; refine (callsIn_wide.2 (back_go _ _ _ _)).mono ?_; rintro e w2 ⟨rfl, rfl⟩)
    | (refine ⟨trivial, ?_⟩; gi_at_call 106; refine (callsIn_wide.2 hI).mono ?_; rintro e w1 ⟨rfl, hb⟩))
  have hlen : (b.take 1).length = 1 := by rw [List.length_take]; omega
  have hW2 : Below w.heap.size w ((w1.alloc (.cells #[.int .u64 0] 124)).alloc (.cells #[.slice (some a) 1 cc] 36)) := (hb.alloc hb.size _).alloc (by have := hb.size; simp; omega) _
  have hcs : ∀ i, i < (b.take 1).length → ((w1.alloc (.cells #[.int .u64 0] 124)).alloc (.cells #[.slice (some a) 1 cc] 36)).cell? (a.add i) = some (.int .u8 (((b.take 1).getD i 0).toNat : Int)) := fun i hi => by
    obtain ⟨a', e', _, h2⟩ := hr.2 (by omega)
    cases e'
    have hib : i < b.length := by omega
    have := h2 i (.int .u8 ((b.getD i 0).toNat : Int)) (by unfold bl; rw [List.getElem?_map, List.getElem?_eq_getElem hib, List.getD_eq_getElem?_getD, List.getElem?_eq_getElem hib]; rfl)
    rw [hW2.cell (p := a.add i) (World.block_lt_of_cell? w _ this), this]
    congr 3
    rw [List.getD_eq_getElem?_getD, List.getD_eq_getElem?_getD, List.getElem?_take, if_pos (by omega)]
  have hst := back_stops Fence.wide 2 trivial rfl (by omega) (w1.heap.size + 1) w1.heap.size cc a (b.take 1) (by omega) _ (by simp) (by simp; omega) (Nat.lt_of_lt_of_le haw hb.size) (by
    have := Blk.new (w1.alloc (.cells #[.int .u64 0] 124)) 36 #[.slice (some a) 1 cc]
    rw [hlen]
    have h := this.cell 0
    simp) hcs
  have hKb : ∀ (W : World) (l : Nat) (o o' : Obj), w1.heap.size + 1 + 1 ≤ l → W.heap[l]? = some o → o.isCells = false → o.isWalk = false → KeepB w1.heap.size (w1.heap.size + 1) W (W.putObj l o') := fun W l o o' hl ho h1 h2 =>
    ⟨Below.mono (belowK_b (w := w1) (Nat.le_refl _) W l o o' (by omega) ho h1 h2) (Nat.le_refl _), by
      have hlt : l < W.heap.size := (Array.getElem?_eq_some_iff.1 ho).1
      simp [World.putObj, World.cell?, Array.getElem?_setIfInBounds, show l ≠ w1.heap.size + 1 by omega]⟩
  have hAcc := backN_all (b.take 1)
  rw [hlen] at hAcc
  refine' wpIn_rangeFunc_ownG rfl (by omega) (gf := 115) (lb := #[.pointer (some ⟨w1.heap.size + 1, 0, none⟩)]) rfl trivial (enters_of Tryz.func115 (by kernel_rfl) rfl) hst keepB_t ?hkb (Below.refl _ _) (fun _ => rfl)
    (fun pre W => (W.cell? ⟨w1.heap.size, 0, none⟩ = some (.int .u64 (accM pre : Nat)) ∧ W.frozen? ⟨w1.heap.size, 0, none⟩ = false) ∧ Below w.heap.size w W)
    (fun _ _ _ => False) ?hi ?hix ?h0 _ ?assign ?body ?done ?stop
  case hkb => exact fun W l o o' hl => hKb W l o o' (by simpa using hl)
  case hi => exact OwnFrom.and (Own.from (fun s A B row hs hg hr => ⟨cell_kept hs.1 hg hr, (frozen_kept hs.1 hg hr).trans hs.2⟩) _) (ownFrom_below (Nat.le_refl _) (by have := hb.size; simp; omega))
  case hix => exact fun _ _ _ _ _ hs _ _ => hs
  case h0 =>
    have bS := Boxed.new w1 124 (.int .u64 0)
    exact ⟨⟨(bS.alloc _).cell, (bS.alloc _).frozen⟩, hW2⟩
  case assign =>
    intro l x W K hK
    gi_wp2
    exact hK
  case body =>
    rintro l pre x W ⟨⟨hca, hfa⟩, hBa⟩ hp
    have hv := accM_step pre x
    gi_wp2
    exact ⟨(KeepsOthers.setCell _ _ _).from _, ⟨(Below.refl w1.heap.size W).setCell (p := ⟨w1.heap.size, 0, none⟩) (Nat.le_refl _) _, World.cell?_setCell_far _ _ _ _ (by simp)⟩, ⟨by exact World.cell?_setCell_same' _ _ _ (by rw [hca]; rfl), by rw [World.frozen?_setCell]; exact hfa⟩, hBa.setCell (p := ⟨w1.heap.size, 0, none⟩) hb.size _⟩
  case done =>
    rintro D ys W hD rfl ⟨⟨hca, _⟩, hBa⟩ hK
    gi_wp2
    refine ⟨by simp, .inl ⟨_, _, rfl, run_takeDeferred hK, ?_⟩⟩
    refine ⟨_, results_tmp3 rfl _ _ _, ?_, hBa.trans (belowK_b (w := w) (Nat.le_refl _) W D _ _ (by have := hb.size; simp at hD; omega) hK rfl rfl)⟩
    rw [← hAcc, ← show accM _ = accN _ from Nat.mod_eq_of_lt (by rw [hAcc]; exact hbn)]
    rfl
  case stop =>
    rintro D c pre W _ _ h _
    exact h.elim
set_option maxHeartbeats 4000000 in
set_option maxRecDepth 100000 in
theorem VGet_ten {B : Nat} (a : Addr) (cc : Nat) (b : List UInt8) (w : World) (hB : B ≤ w.heap.size) (hr : Reads w B 1 (some a) b.length (bl b)) (hcap : b.length ≤ cc) (hl : 10 ≤ b.length) (hi : low (b.take 10) 0 = some 9) (hy : (b.getD 9 0).toNat = 1) :
    Calls Tryz.prog 92 #[.slice (some a) b.length cc] w fun e w' => e = .returned (.tuple #[.int .u64 (backN (b.take 10) : Nat), .int .i64 10, .int .i64 0]) ∧ Below w.heap.size w w' := by
  have hl10 : (b.take 10).length = 10 := by rw [List.length_take]; omega
  have hI := LowIndex_any (some a) cc (b.take 10) (by rw [hl10]; exact reads_take hr hl) hB (by omega)
  have e : lowI (b.take 10) = 9 := by unfold lowI; rw [hi]; rfl
  rw [e, hl10] at hI
  have hmin : min (b.length : Int) 10 = 10 := by omega
  have hc : w.cell? (a.add 9) = some (.int .u8 1) := by have := reads_cell hr 9 (by omega); rw [hy] at this; exact this
  have haw := reads_low hr (by omega)
  have hbn := backN_fit10 b (by omega) (by omega)
  have b0 : 10 ≤ cc := by omega
  have hcw : ∀ W, Below w.heap.size w W → W.cell? (a.add 9) = some (.int .u8 1) := fun W hW => (hW.cell (World.block_lt_of_cell? w _ hc)).trans hc
  clear hi e hl10 hy
  refine (callsIn_wide (n := 3)).1 ?_
  refine callsIn_of_wp_marks Tryz.func92 rfl trivial ?_ rfl
  simp only [Tryz.ntmps92, List.size_toArray, List.length_cons, List.length_nil, Nat.reduceAdd, Nat.reduceSub, Array.replicate_succ, Array.replicate_zero, List.push_toArray, List.append_toArray, List.nil_append, List.cons_append]
  gi_wp2_with (first
    | (refine ⟨trivial, ?_⟩; gi_at_call 108; refine (callsIn_wide.2 (back_go _ _ _ _)).mono ?_; rintro e w2 ⟨rfl, rfl⟩)
    | (refine ⟨trivial, ?_⟩; gi_at_call 106; refine (callsIn_wide.2 hI).mono ?_; rintro e w1 ⟨rfl, hb⟩; have hcx := hcw w1 hb; have hcz : w1.cell? ⟨a.block, a.off + 9, none⟩ = some (.int .u8 1) := (by simpa [Addr.add] using hcx)))
  have hlen : (b.take 10).length = 10 := by rw [List.length_take]; omega
  have hW2 : Below w.heap.size w ((w1.alloc (.cells #[.int .u64 0] 124)).alloc (.cells #[.slice (some a) 10 cc] 36)) := (hb.alloc hb.size _).alloc (by have := hb.size; simp; omega) _
  have hcs : ∀ i, i < (b.take 10).length → ((w1.alloc (.cells #[.int .u64 0] 124)).alloc (.cells #[.slice (some a) 10 cc] 36)).cell? (a.add i) = some (.int .u8 (((b.take 10).getD i 0).toNat : Int)) := fun i hi => by
    obtain ⟨a', e', _, h2⟩ := hr.2 (by omega)
    cases e'
    have hib : i < b.length := by omega
    have := h2 i (.int .u8 ((b.getD i 0).toNat : Int)) (by unfold bl; rw [List.getElem?_map, List.getElem?_eq_getElem hib, List.getD_eq_getElem?_getD, List.getElem?_eq_getElem hib]; rfl)
    rw [hW2.cell (p := a.add i) (World.block_lt_of_cell? w _ this), this]
    congr 3
    rw [List.getD_eq_getElem?_getD, List.getD_eq_getElem?_getD, List.getElem?_take, if_pos (by omega)]
  have hst := back_stops Fence.wide 2 trivial rfl (by omega) (w1.heap.size + 1) w1.heap.size cc a (b.take 10) (by omega) _ (by simp) (by simp; omega) (Nat.lt_of_lt_of_le haw hb.size) (by
    have := Blk.new (w1.alloc (.cells #[.int .u64 0] 124)) 36 #[.slice (some a) 10 cc]
    rw [hlen]
    have h := this.cell 0
    simp) hcs
  have hKb : ∀ (W : World) (l : Nat) (o o' : Obj), w1.heap.size + 1 + 1 ≤ l → W.heap[l]? = some o → o.isCells = false → o.isWalk = false → KeepB w1.heap.size (w1.heap.size + 1) W (W.putObj l o') := fun W l o o' hl ho h1 h2 =>
    ⟨Below.mono (belowK_b (w := w1) (Nat.le_refl _) W l o o' (by omega) ho h1 h2) (Nat.le_refl _), by
      have hlt : l < W.heap.size := (Array.getElem?_eq_some_iff.1 ho).1
      simp [World.putObj, World.cell?, Array.getElem?_setIfInBounds, show l ≠ w1.heap.size + 1 by omega]⟩
  have hAcc := backN_all (b.take 10)
  rw [hlen] at hAcc
  refine' wpIn_rangeFunc_ownG rfl (by omega) (gf := 115) (lb := #[.pointer (some ⟨w1.heap.size + 1, 0, none⟩)]) rfl trivial (enters_of Tryz.func115 (by kernel_rfl) rfl) hst keepB_t ?hkb (Below.refl _ _) (fun _ => rfl)
    (fun pre W => (W.cell? ⟨w1.heap.size, 0, none⟩ = some (.int .u64 (accM pre : Nat)) ∧ W.frozen? ⟨w1.heap.size, 0, none⟩ = false) ∧ Below w.heap.size w W)
    (fun _ _ _ => False) ?hi ?hix ?h0 _ ?assign ?body ?done ?stop
  case hkb => exact fun W l o o' hl => hKb W l o o' (by simpa using hl)
  case hi => exact OwnFrom.and (Own.from (fun s A B row hs hg hr => ⟨cell_kept hs.1 hg hr, (frozen_kept hs.1 hg hr).trans hs.2⟩) _) (ownFrom_below (Nat.le_refl _) (by have := hb.size; simp; omega))
  case hix => exact fun _ _ _ _ _ hs _ _ => hs
  case h0 =>
    have bS := Boxed.new w1 124 (.int .u64 0)
    exact ⟨⟨(bS.alloc _).cell, (bS.alloc _).frozen⟩, hW2⟩
  case assign =>
    intro l x W K hK
    gi_wp2
    exact hK
  case body =>
    rintro l pre x W ⟨⟨hca, hfa⟩, hBa⟩ hp
    have hv := accM_step pre x
    gi_wp2
    exact ⟨(KeepsOthers.setCell _ _ _).from _, ⟨(Below.refl w1.heap.size W).setCell (p := ⟨w1.heap.size, 0, none⟩) (Nat.le_refl _) _, World.cell?_setCell_far _ _ _ _ (by simp)⟩, ⟨by exact World.cell?_setCell_same' _ _ _ (by rw [hca]; rfl), by rw [World.frozen?_setCell]; exact hfa⟩, hBa.setCell (p := ⟨w1.heap.size, 0, none⟩) hb.size _⟩
  case done =>
    rintro D ys W hD rfl ⟨⟨hca, _⟩, hBa⟩ hK
    gi_wp2
    refine ⟨by simp, .inl ⟨_, _, rfl, run_takeDeferred hK, ?_⟩⟩
    refine ⟨_, results_tmp3 rfl _ _ _, ?_, hBa.trans (belowK_b (w := w) (Nat.le_refl _) W D _ _ (by have := hb.size; simp at hD; omega) hK rfl rfl)⟩
    rw [← hAcc, ← show accM _ = accN _ from Nat.mod_eq_of_lt (by rw [hAcc]; exact hbn)]
    rfl
  case stop =>
    rintro D c pre W _ _ h _
    exact h.elim
/-- vint.Get, whole. -/
theorem VGet_all : VGetOK := by
  intro B A cc b w hB hr hl hcap
  rw [getN_getV]
  unfold getV
  cases hi : low (b.take 10) 0 with
  | none =>
    by_cases h : b.length < 10
    · simp only [if_pos h]
      rw [List.take_of_length_le (by omega)] at hi
      exact VGet_short A cc b w hB hr hcap h hi
    · simp only [if_neg h]
      exact VGet_wide A cc b w hB hr hcap (by omega) hi
  | some j =>
    have hj := (low_ge _ _ _ hi).2
    rw [List.length_take] at hj
    obtain ⟨a, rfl, _, _⟩ := hr.2 (by omega)
    simp only [Nat.sub_zero]
    by_cases h1 : j = 9 ∧ 1 < (b.getD j 0).toNat
    · simp only [if_pos h1]
      obtain ⟨rfl, h1⟩ := h1
      exact VGet_nine a cc b w hB hr hcap (by omega) hi rfl h1
    simp only [if_neg h1]
    by_cases h2 : 0 < j ∧ (b.getD j 0).toNat = 0
    · simp only [if_pos h2]
      exact VGet_form a cc _ j b w hB hr hcap rfl hi h2.1 h2.2
    simp only [if_neg h2]
    by_cases h3 : j = 0
    · subst h3
      exact VGet_one a cc _ b w hB hr hcap rfl hi
    by_cases h4 : j = 9
    · subst h4
      exact VGet_ten a cc b w hB hr hcap (by omega) hi (by omega)
    exact VGet_go a cc _ j _ b w hB hr hcap rfl hi (by omega) h4 rfl (by omega)
end Go.Proofs.YtekajggjoeimoaaGreatDoor
set_option linter.unusedVariables false
namespace Go.Proofs.YtekajggjoeimoaaGreatDoor
section
variable {P : Program} {ops : Array Oper} {Q : Exit → Act → World → Prop} {md : Region.Mode} {S S' : World → Prop} {n : Nat}
theorem wpAnyE_mono (h : ∀ w, S' w → S w) : ∀ (fuel : Nat) (listed : Array Bool) (a : Act) (w : World), wpAnyE P md ops Q S' n fuel listed a w → wpAnyE P md ops Q S n fuel listed a w
  | 0, _, _, _, H => H
  | fuel + 1, _, _, _, H => ⟨H.1, fun i hi => wpOp_mono (fun a' w' h' => ⟨fun hin => h _ (h'.1 hin), wpAnyE_mono h fuel _ a' w' h'.2⟩) (H.2 i hi)⟩
theorem Tl.step {listed : Array Bool} (T : Tl md ops n listed) (i : Nat) (hr : (Region.ready md ops listed).contains i = true) (hin : i < n) : Tl md ops n (listed.setIfInBounds i true) :=
  ⟨T.sink, T.chain, T.lt, T.sel, T.inv.set (by simpa using hr) hin⟩
end
theorem step_callW {P : Program} {ops : Array Oper} {o : Oper} {a : Act} {w : World} {K : Act → World → Prop} {Q : Exit → Act → World → Prop} {E : Prop} (hw : Region.wanted o (yielded ops a.tmps) = true) (f : FuncId) (args : Array Value) (hrun : (execOp a.eval o).run P w = .ok (.enter f args) w)
    {R : Ending → World → Prop} (hc : Calls P f args w R) (hR : ∀ e w', R e w' → ∃ v, e = .returned v ∧ K (a.put o.dst v) w') : if Region.wanted o (yielded ops a.tmps) = true then Oper.wp P o a w K Q else E := by
  rw [if_pos hw]
  unfold Oper.wp
  rw [hrun, Oper.upon_enter]
  refine hc.mono fun e w'' hh => ?_
  obtain ⟨v, rfl, hk⟩ := hR e w'' hh
  exact hk
end Go.Proofs.YtekajggjoeimoaaGreatDoor
set_option linter.unusedVariables false
namespace Go.Proofs.YtekajggjoeimoaaGreatDoor
open Go.RowKit
theorem reads_str {B : Nat} {W : World} {A : Option Addr} {c n : Nat} {b : List UInt8} (hr : Reads W B 1 A b.length (bl b)) (hn : b.length = n) {t : TypeId} (ht : Tryz.prog.underlying t = some .string) : (convert 36 t (.slice A n c)).run Tryz.prog W = .ok (.string ⟨b.toArray⟩) W := by
  subst hn
  cases A with
  | none =>
    have : b = [] := by
      rcases b with _ | ⟨x, b⟩
      · rfl
      · obtain ⟨a, e, _⟩ := hr.2 (by simp)
        cases e
    subst this
    exact run_convert_bytes_nil W 36 5 Tryz.underlying36 Tryz.underlying5 0 c t ht
  | some a =>
    exact run_convert_bytes_back W 36 t 5 a c b Tryz.underlying36 Tryz.underlying5 ht (fun j hj => by
      rw [reads_cell hr j hj, List.getD_eq_getElem?_getD, List.getElem?_eq_getElem hj]
      rfl)
theorem secs_get : ∀ (n : Nat) (b : List UInt8) (k : Nat), k < n → (secs n b)[k]? = some ⟨((b.drop (64 * k)).take 64).toArray⟩
  | 0, _, _, h => by omega
  | n + 1, b, 0, _ => by simp [secs]
  | n + 1, b, k + 1, h => by
    rw [secs, List.getElem?_cons_succ, secs_get n (b.drop 64) k (by omega), List.drop_drop]
    rw [show 64 + 64 * k = 64 * (k + 1) by omega]
/-- The rest of a slice. -/
theorem reads_rest {B : Nat} {w : World} {a : Addr} {b : List UInt8} (k c : Nat) (hr : Reads w B 1 (some a) b.length (bl b)) (hk : k ≤ b.length) (hc : b.length ≤ c) : ∃ a', (if c = k then some a else some (a.add k)) = some a' ∧ Reads w B 1 (some a') (b.length - k) (bl (b.drop k)) := by
  by_cases h : c = k
  · refine ⟨a, if_pos h, ?_⟩
    have e : b.length - k = 0 := by omega
    rw [e, List.drop_of_length_le (by omega)]
    exact ⟨rfl, fun h => absurd h (by omega)⟩
  · refine ⟨a.add k, if_neg h, ?_⟩
    have := reads_sub (k := k) (n := b.length - k) hr (by omega)
    rwa [List.take_of_length_le (by rw [List.length_drop]; omega)] at this
set_option maxHeartbeats 4000000 in
set_option maxRecDepth 100000 in
theorem LSec_any {B : Nat} {w : World} {lb c : Nat} {A : Option Addr} {b : List UInt8} {last : ByteArray} {u : Int} (n : Nat) (hl : Blk w lb 114 #[.slice A b.length c, .string last, .int .i64 u]) (hlb : B ≤ lb) (hr : Reads w B 1 A b.length (bl b)) (hc : b.length ≤ c) (hn : n ≤ 4096) (h64 : 64 * n ≤ b.length) :
    Calls Tryz.prog 93 #[.pointer (some ⟨lb, 0, none⟩), .int .i64 n] w fun e w' => ∃ v A' c', e = .returned v ∧ w'.ownsRow w.heap.size 101 1 v n (strs (secs n b)) ∧ Blk w' lb 114 #[.slice A' (b.length - 64 * n) c', .string last, .int .i64 u] ∧ Reads w' B 1 A' (b.length - 64 * n) (bl (b.drop (64 * n))) ∧ b.length - 64 * n ≤ c' ∧ Fr (· = lb) w w' := by
  obtain ⟨i0, hi0, hz0, hz1, hz2⟩ := info_parts Tryz.info101
  have hmk := run_makeSlice (P := Tryz.prog) w 99 101 i0 _ Tryz.underlying99 hi0 hz0 .i64 .i64 n n (by omega) (Int.le_refl _) (by rw [hz1]; simp; omega) (by rw [hz2]; omega) (by omega)
  rw [hz1] at hmk
  simp only [Int.toNat_natCast, Nat.mul_one] at hmk
  obtain ⟨cur, hcur⟩ : ∃ cur, madeCells (Value.string ByteArray.empty).cells n = cur := ⟨_, rfl⟩
  have hcs : cur.size = n := by rw [← hcur]; simp [madeCells, Value.cells]
  rw [hcur] at hmk
  have hb1 : Blk (w.alloc (.cells cur 101)) w.heap.size 101 cur := Blk.new w _ _
  have hf1 : Fr (· = lb) w (w.alloc (.cells cur 101)) := Fr.of_below ((Below.refl _ _).alloc (Nat.le_refl _) _)
  have hlw := hl.lt
  have hl1 : Blk (w.alloc (.cells cur 101)) lb 114 #[.slice A b.length c, .string last, .int .i64 u] := (Below.heap_alloc w _ _ hlw).trans hl
  have hsl := secs_len n b
  have HW := Lib.hid (And.intro hi0 (And.intro hz0 (And.intro hz1 hz2)))
  clear hi0 hz0 hz1 hz2 hcur
  go_enter Tryz.func93, Tryz.ntmps93
  go_wp2_with fail
  go_loopw [6, 11] (fun _ i wr => ∃ (k : Nat) (A' : Option Addr) (c' : Nat) (cu : Array Value), k ≤ n ∧ i = .int .i64 k ∧ Blk wr lb 114 #[.slice A' (b.length - 64 * k) c', .string last, .int .i64 u] ∧ Reads w B 1 A' (b.length - 64 * k) (bl (b.drop (64 * k))) ∧ b.length - 64 * k ≤ c' ∧ Blk wr w.heap.size 101 cu ∧ cu.size = n ∧ (∀ j s, j < k → (secs n b)[j]? = some s → cu[j]? = some (.string s)) ∧ Fr (· = lb) w wr) (fun _ i _ => n - (intOf i).toNat)
  case atStart => exact ⟨0, A, c, cur, Nat.zero_le _, rfl, hl1, hr, hc, hb1, hcs, fun j s hj => by omega, hf1⟩
  case round =>
    obtain ⟨k, A', c', cu, hk, rfl, hlk, hrk, hck, hbk, hsk, huk, hfk⟩ := hrel
    by_cases hlt : k < n
    · have d1 : decide (k < n) = true := by simpa using hlt
      obtain ⟨m, hm⟩ : ∃ m, b.length - 64 * k = m := ⟨_, rfl⟩
      have hml : (b.drop (64 * k)).length = m := by rw [List.length_drop]; exact hm
      rw [hm] at hlk hrk hck
      have hm64 : 64 ≤ m := by omega
      obtain ⟨a, rfl⟩ : ∃ a, A' = some a := by obtain ⟨a, e, _⟩ := hrk.2 (by omega); exact ⟨a, e⟩
      have hrk' : Reads w B 1 (some a) (b.drop (64 * k)).length (bl (b.drop (64 * k))) := by rw [hml]; exact hrk
      obtain ⟨a', ha', hra⟩ := reads_rest 64 c' hrk' (by omega) (by omega)
      have ha'' : (if c' = 64 then some a else some ⟨a.block, a.off + 64, none⟩) = some a' := by simpa [Addr.add] using ha'
      obtain ⟨s, hs⟩ : ∃ s : ByteArray, (⟨((b.drop (64 * k)).take 64).toArray⟩ : ByteArray) = s := ⟨_, rfl⟩
      have hsk' := secs_get n b k hlt
      rw [hs] at hsk'
      have h64r : Reads w B 1 (some a) 64 (bl ((b.drop (64 * k)).take 64)) := reads_take hrk' (by omega)
      have hcv : ∀ W, Below B w W → (convert 36 101 (.slice (some a) 64 c')).run Tryz.prog W = .ok (.string s) W := fun W hW => by
        rw [← hs]
        have hl64 : ((b.drop (64 * k)).take 64).length = 64 := by rw [List.length_take]; omega
        refine reads_str (B := B) (b := (b.drop (64 * k)).take 64) ?_ hl64 Tryz.underlying101
        rw [hl64]
        exact h64r.below hW
      have c0 : wr.cell? ⟨lb, 0, none⟩ = some (.slice (some a) m c') := hlk.cell 0
      have i0 : (0 : Int) ≤ (k : Int) := by omega
      have i1 : (k : Int) < (n : Int) := by omega
      have i2 : (64 : Int) ≤ (c' : Int) := by omega
      have i3 : (64 : Int) ≤ (m : Int) := by omega
      have i4 : 64 ≤ c' := by omega
      go_wp2_with fail
      have hBw : B ≤ w.heap.size := Nat.le_trans hlb (Nat.le_of_lt hlw)
      have hgl : w.heap.size ≠ lb := by omega
      have hBd : Below B w wr.drew := (fr_below hfk (fun j hj => by subst hj; exact hlb) hBw).drew
      have c0d : wr.drew.cell? ⟨lb, 0, none⟩ = some (.slice (some a) m c') := c0
      have hcd := hcv _ hBd
      have hfg : wr.drew.frozen? ⟨w.heap.size, k, none⟩ = false := hbk.frozen k
      obtain ⟨y, hy⟩ : ∃ y, cu[k]? = some y := ⟨_, Array.getElem?_eq_getElem (by omega)⟩
      have hgk : wr.cell? ⟨w.heap.size, k, none⟩ = some y := (hbk.cell k).trans hy
      obtain ⟨W1, hW1⟩ : ∃ W1, wr.drew.setCell ⟨w.heap.size, k, none⟩ (.string s) = W1 := ⟨_, rfl⟩
      have hlk1 : Blk W1 lb 114 #[.slice (some a) m c', .string last, .int .i64 u] := by rw [← hW1]; exact (Below.heap_setCell _ _ _ _ (fun e => hgl e.symm)).trans hlk
      have c01 : W1.cell? ⟨lb, 0, none⟩ = some (.slice (some a) m c') := hlk1.cell 0
      have hf01 := hlk1.frozen 0
      have hB1 : Below B w W1 := by rw [← hW1]; exact hBd.setCell (p := ⟨w.heap.size, k, none⟩) hBw _
      have hc1 := hcv _ hB1
      refine regionE 18 (fun W0 => W0.cell? ⟨lb, 0, none⟩ = some (.slice (some a) m c') ∧ (convert 36 101 (.slice (some a) 64 c')).run Tryz.prog W0 = .ok (.string s) W0) (by kernel_rfl) (by kernel_rfl) (by kernel_rfl) (by kernel_rfl) (by kernel_rfl) (⟨c0d, hcd⟩) (fun hHeld hTl => ?_)
      refine takeE 0 (v := ?_) hTl rfl (by decide) (by kernel_rfl) (by kernel_rfl) (fun _ _ _ h => h) hHeld (Or.inl ⟨by rfl, ?_⟩) (fun hTl => ?_)
      rotate_left
      · intro w hSw; (try dsimp only at hSw); go_simp
        all_goals with_reducible rfl
      try simp only [Act.put, List.setIfInBounds_toArray, List.set_cons_zero, List.set_cons_succ]
      refine takeE 1 (v := ?_) hTl rfl (by decide) (by kernel_rfl) (by kernel_rfl) (fun _ _ _ h => h) hHeld (Or.inl ⟨by rfl, ?_⟩) (fun hTl => ?_)
      rotate_left
      · intro w hSw; (try dsimp only at hSw); go_simp
        all_goals with_reducible rfl
      try simp only [Act.put, List.setIfInBounds_toArray, List.set_cons_zero, List.set_cons_succ]
      refine takeE 2 (v := ?_) hTl rfl (by decide) (by kernel_rfl) (by kernel_rfl) (fun _ _ _ h => h) hHeld (Or.inl ⟨by rfl, ?_⟩) (fun hTl => ?_)
      rotate_left
      · intro w hSw; (try dsimp only at hSw); go_simp
        all_goals with_reducible rfl
      try simp only [Act.put, List.setIfInBounds_toArray, List.set_cons_zero, List.set_cons_succ]
      refine takeE 3 (v := ?_) hTl rfl (by decide) (by kernel_rfl) (by kernel_rfl) (fun _ _ _ h => h) hHeld (Or.inl ⟨by rfl, ?_⟩) (fun hTl => ?_)
      rotate_left
      · intro w hSw; (try dsimp only at hSw); go_simp
        all_goals with_reducible rfl
      try simp only [Act.put, List.setIfInBounds_toArray, List.set_cons_zero, List.set_cons_succ]
      refine takeE 4 (v := ?_) hTl rfl (by decide) (by kernel_rfl) (by kernel_rfl) (fun _ _ _ h => h) hHeld (Or.inl ⟨by rfl, ?_⟩) (fun hTl => ?_)
      rotate_left
      · intro w hSw; (try dsimp only at hSw); go_simp
        all_goals with_reducible rfl
      try simp only [Act.put, List.setIfInBounds_toArray, List.set_cons_zero, List.set_cons_succ]
      refine takeE 5 (v := ?_) hTl rfl (by decide) (by kernel_rfl) (by kernel_rfl) (fun _ _ _ h => h) hHeld (Or.inl ⟨by rfl, ?_⟩) (fun hTl => ?_)
      rotate_left
      · intro w hSw; (try dsimp only at hSw); go_simp
        all_goals with_reducible rfl
      try simp only [Act.put, List.setIfInBounds_toArray, List.set_cons_zero, List.set_cons_succ]
      refine takeE 6 (v := ?_) hTl rfl (by decide) (by kernel_rfl) (by kernel_rfl) (fun _ _ _ h => h) hHeld (Or.inl ⟨by rfl, ?_⟩) (fun hTl => ?_)
      rotate_left
      · intro w hSw; (try dsimp only at hSw); go_simp
        all_goals with_reducible rfl
      try simp only [Act.put, List.setIfInBounds_toArray, List.set_cons_zero, List.set_cons_succ]
      refine takeE 7 (v := ?_) hTl rfl (by decide) (by kernel_rfl) (by kernel_rfl) (fun _ _ _ h => h) hHeld (Or.inl ⟨by rfl, ?_⟩) (fun hTl => ?_)
      rotate_left
      · intro w hSw; (try dsimp only at hSw); go_simp
        all_goals with_reducible rfl
      try simp only [Act.put, List.setIfInBounds_toArray, List.set_cons_zero, List.set_cons_succ]
      refine takeE 8 (v := ?_) hTl rfl (by decide) (by kernel_rfl) (by kernel_rfl) (fun _ _ _ h => h) hHeld (Or.inl ⟨by rfl, ?_⟩) (fun hTl => ?_)
      rotate_left
      · intro w hSw; (try dsimp only at hSw); go_simp
        all_goals with_reducible rfl
      try simp only [Act.put, List.setIfInBounds_toArray, List.set_cons_zero, List.set_cons_succ]
      refine takeE 9 (v := ?_) hTl rfl (by decide) (by kernel_rfl) (by kernel_rfl) (fun _ _ _ h => h) hHeld (Or.inl ⟨by rfl, ?_⟩) (fun hTl => ?_)
      rotate_left
      · intro w hSw; (try dsimp only at hSw); go_simp
        all_goals with_reducible rfl
      try simp only [Act.put, List.setIfInBounds_toArray, List.set_cons_zero, List.set_cons_succ]
      refine takeE 10 (v := ?_) hTl rfl (by decide) (by kernel_rfl) (by kernel_rfl) (fun _ _ _ h => h) hHeld (Or.inl ⟨by rfl, ?_⟩) (fun hTl => ?_)
      rotate_left
      · intro w hSw; (try dsimp only at hSw); go_simp
        all_goals with_reducible rfl
      try simp only [Act.put, List.setIfInBounds_toArray, List.set_cons_zero, List.set_cons_succ]
      refine takeE 11 (v := ?_) hTl rfl (by decide) (by kernel_rfl) (by kernel_rfl) (fun _ _ _ h => h) hHeld (Or.inl ⟨by rfl, ?_⟩) (fun hTl => ?_)
      rotate_left
      · intro w hSw; (try dsimp only at hSw); go_simp
        all_goals with_reducible rfl
      try simp only [Act.put, List.setIfInBounds_toArray, List.set_cons_zero, List.set_cons_succ]
      refine takeE 12 (v := ?_) hTl rfl (by decide) (by kernel_rfl) (by kernel_rfl) (fun _ _ _ h => h) hHeld (Or.inl ⟨by rfl, ?_⟩) (fun hTl => ?_)
      rotate_left
      · intro w hSw; (try dsimp only at hSw); go_simp
        all_goals with_reducible rfl
      try simp only [Act.put, List.setIfInBounds_toArray, List.set_cons_zero, List.set_cons_succ]
      refine takeE 13 (v := ?_) hTl rfl (by decide) (by kernel_rfl) (by kernel_rfl) (fun _ _ _ h => h) hHeld (Or.inl ⟨by rfl, ?_⟩) (fun hTl => ?_)
      rotate_left
      · intro w hSw; (try dsimp only at hSw); go_simp
        all_goals with_reducible rfl
      try simp only [Act.put, List.setIfInBounds_toArray, List.set_cons_zero, List.set_cons_succ]
      refine takeE 14 (v := ?_) hTl rfl (by decide) (by kernel_rfl) (by kernel_rfl) (fun _ _ _ h => h) hHeld (Or.inl ⟨by rfl, ?_⟩) (fun hTl => ?_)
      rotate_left
      · intro w hSw; (try dsimp only at hSw); go_simp
        all_goals with_reducible rfl
      try simp only [Act.put, List.setIfInBounds_toArray, List.set_cons_zero, List.set_cons_succ]
      clear hTl
      refine oneE 15 rfl (by kernel_rfl) (fun K hK => ?_)
      go_simp
      refine hK.out _ _ (fun _ => ⟨c01, hc1⟩) ?_
      clear hK K
      try simp only [Act.put, List.setIfInBounds_toArray, List.set_cons_zero, List.set_cons_succ]
      refine oneE 16 rfl (by kernel_rfl) (fun K hK => ?_)
      go_simp
      refine hK.out _ _ (fun _ => ⟨c01, hc1⟩) ?_
      clear hK K
      try simp only [Act.put, List.setIfInBounds_toArray, List.set_cons_zero, List.set_cons_succ]
      refine oneE 17 rfl (by kernel_rfl) (fun K hK => ?_)
      go_simp
      refine hK.out _ _ (fun _ => ⟨c01, hc1⟩) ?_
      clear hK K
      try simp only [Act.put, List.setIfInBounds_toArray, List.set_cons_zero, List.set_cons_succ]
      refine oneE 18 rfl (by kernel_rfl) (fun K hK => ?_)
      go_simp
      refine hK.out _ _ (fun h => absurd h (by decide)) ?_
      clear hK K
      try simp only [Act.put, List.setIfInBounds_toArray, List.set_cons_zero, List.set_cons_succ]
      refine doneE (by kernel_rfl) ?_ _
      go_wp2
      go_roundw
      case rel =>
        refine ⟨k + 1, some a', c' - 64, cu.setIfInBounds k (.string s), by omega, by go_num, ?_, ?_, by omega, ?_, by simpa using hsk, ?_, ?_⟩
        · rw [show b.length - 64 * (k + 1) = m - 64 by omega]
          have := hlk1.set_ 0 (.slice (some a') (m - 64) (c' - 64))
          simpa using this
        · rw [show b.length - 64 * (k + 1) = (b.drop (64 * k)).length - 64 by rw [hml]; omega, show 64 * (k + 1) = 64 * k + 64 by omega, ← List.drop_drop]
          exact hra
        · refine (Below.heap_setCell _ _ _ _ hgl).trans ?_
          rw [← hW1]
          exact hbk.set_ k (.string s)
        · intro j s' hj hj2
          rw [Array.getElem?_setIfInBounds]
          by_cases e : k = j
          · subst e
            rw [hsk'] at hj2
            cases hj2
            rw [if_pos rfl, if_pos (by omega)]
          · rw [if_neg e]
            exact huk j s' (by omega) hj2
        · rw [← hW1]
          exact (hfk.drew.setCell (p := ⟨w.heap.size, k, none⟩) (.inl (Nat.le_refl _)) _).setCell (p := ⟨lb, 0, none⟩) (.inr rfl) _
      case measure => simp [intOf]; omega
    · have d1 : decide (k < n) = false := by simpa using hlt
      obtain rfl : k = n := by omega
      have HE := Lib.hid (And.intro hlk (And.intro hrk (And.intro hck (And.intro hbk hfk))))
      clear hlk hrk hck hbk hfk hmk
      go_wp2
      go_ret
      obtain ⟨h1, h2, h3, h4, h5⟩ := HE.out
      have hBw : B ≤ w.heap.size := Nat.le_trans hlb (Nat.le_of_lt hlw)
      refine ⟨_, A', c', rfl, ?_, h1, h2.below (fr_below h5 (fun j hj => by subst hj; exact hlb) hBw), h3, h5⟩
      refine ⟨by unfold strs; rw [List.length_map, hsl]; omega, .inr ⟨w.heap.size, k, cu, rfl, Nat.le_refl _, h4, Nat.le_refl _, by simp only [maxLen]; omega, by omega, ?_⟩⟩
      refine List.ext_getElem? fun j => ?_
      rw [List.getElem?_take]
      by_cases hj : j < k * 1
      · rw [if_pos hj]
        have hl' : j < (secs k b).length := by omega
        have := huk j _ (by omega) (List.getElem?_eq_getElem hl')
        unfold strs
        rw [List.getElem?_map, List.getElem?_eq_getElem hl', Array.getElem?_toList, this]
        rfl
      · rw [if_neg hj, List.getElem?_eq_none]
        unfold strs
        rw [List.length_map]
        omega
end Go.Proofs.YtekajggjoeimoaaGreatDoor
set_option linter.unusedVariables false
namespace Go.Proofs.YtekajggjoeimoaaGreatDoor
open Go.RowKit Go.Sort
theorem getB_len (b : List UInt8) : (getB b).1.length ≤ b.length := by
  unfold getB
  split
  · simp
  · split
    · simp
    · simp only [List.length_take, List.length_drop]; omega
theorem own_str8 {W : World} {B n c : Nat} {A : Option Addr} {b : List UInt8} (hn : b.length = n) (h : W.ownsRow B 5 1 (.slice A n c) n (bl b)) {t : TypeId} (ht : Tryz.prog.underlying t = some .string) : (convert 36 t (.slice A n c)).run Tryz.prog W = .ok (.string ⟨b.toArray⟩) W :=
  reads_str (by subst hn; exact Reads.of_own h) hn ht
theorem le_iff {a b : List UInt8} : (a < b ∨ a = b) ↔ a ≤ b := by
  constructor
  · rintro (h | h)
    · exact List.le_of_lt h
    · rw [h]; exact List.le_refl _
  · intro h
    by_cases e : a = b
    · exact .inr e
    · exact .inl (List.not_le.1 fun h2 => e (List.le_antisymm h h2))
theorem str_leq {a b : List UInt8} {s z : ByteArray} (hs : (⟨a.toArray⟩ : ByteArray) = s) (hz : (⟨b.toArray⟩ : ByteArray) = z) (W : World) : (binOp .leq 9 (.string s) (.string z)).run Tryz.prog W = .ok (.bool (decide (a ≤ b))) W := by
  have e1 : s.toList = a := by rw [← hs, ByteArray.toList_eq]
  have e2 : z.toList = b := by rw [← hz, ByteArray.toList_eq]
  have e3 : (Op.bytesLess a b || a == b) = decide (a ≤ b) := by
    rw [Bool.eq_iff_iff, bytesLess_eq]
    simp only [Bool.or_eq_true, decide_eq_true_eq, beq_iff_eq]
    exact le_iff
  have h : binOp .leq 9 (.string s) (.string z) = pure (.bool (Op.bytesLess s.toList z.toList || s.toList == z.toList)) := by simp [binOp, Op.stringOp]
  rw [h, e1, e2, e3]
  rfl
section
variable {B : Nat} {w : World} {lb c : Nat} {A : Option Addr} {b last : List UInt8} {u : Int}
set_option maxHeartbeats 4000000 in
set_option maxRecDepth 100000 in
theorem LFile_head (hl : Blk w lb 114 #[.slice A b.length c, .string ⟨last.toArray⟩, .int .i64 u]) (hlb : B ≤ lb) (hr : Reads w B 1 A b.length (bl b)) (hc : b.length ≤ c) (h9 : b.length ≤ 900000)
    (ht : (getB b).2.2 ≠ 0 ∨ nameOK ⟨(getB b).1.toArray⟩ = false ∨ (getB b).1 ≤ last) :
    Calls Tryz.prog 54 #[.pointer (some ⟨lb, 0, none⟩)] w fun e w' => e = .returned (.tuple #[.pointer none, .bool false]) ∧ Fr (· = lb) w w' := by
  have hB : B ≤ w.heap.size := Nat.le_trans hlb (Nat.le_of_lt hl.lt)
  have hG := VGetB_of VGet_all A c b w hB hr (by omega) hc
  have hnl : (getB b).1.length ≤ 900000 := Nat.le_trans (getB_len b) h9
  obtain ⟨⟨nm, n, e⟩, hg⟩ : ∃ g, getB b = g := ⟨_, rfl⟩
  rw [hg] at hG ht hnl
  dsimp only at hG ht hnl
  have c0 : w.cell? ⟨lb, 0, none⟩ = some (.slice A b.length c) := hl.cell 0
  obtain ⟨s, hs⟩ : ∃ s : ByteArray, (⟨nm.toArray⟩ : ByteArray) = s := ⟨_, rfl⟩
  obtain ⟨z, hz⟩ : ∃ z : ByteArray, (⟨last.toArray⟩ : ByteArray) = z := ⟨_, rfl⟩
  have hN := isName_any s (by rw [← hs]; simp [ByteArray.size]; omega)
  rw [hz] at hl
  have HL := Lib.hid hl
  clear hl
  by_cases he : e = 0
  · subst he
    by_cases hk : nameOK s = true
    · rw [hk] at hN
      have hle : nm ≤ last := by
        rw [hs] at ht
        rcases ht with h | h | h
        · exact absurd rfl h
        · rw [hk] at h; cases h
        · exact h
      have hleq := fun W => str_leq hs hz W
      rw [show decide (nm ≤ last) = true by simpa using hle] at hleq
      go_enter Tryz.func54, Tryz.ntmps54
      go_wp2_with (first
        | (go_at_call 91; refine hG.mono ?_; rintro e w1 ⟨v, rfl, ho, hb⟩; obtain ⟨A1, k1, rfl⟩ := own_formS ho; have hcv := own_str8 rfl ho Tryz.underlying9; rw [hs] at hcv; have c1 : w1.cell? ⟨lb, 1, none⟩ = some (.string z) := (show Blk w1 lb 114 _ from (hb.block lb HL.out.lt).trans HL.out).cell 1)
        | (go_at_call 71; refine (hN _).mono ?_; rintro e w8 ⟨rfl, rfl⟩))
      go_ret2
      exact ⟨rfl, Fr.of_below hb⟩
    · have hk' : nameOK s = false := by simpa using hk
      rw [hk'] at hN
      go_enter Tryz.func54, Tryz.ntmps54
      go_wp2_with (first
        | (go_at_call 91; refine hG.mono ?_; rintro e w1 ⟨v, rfl, ho, hb⟩; obtain ⟨A1, k1, rfl⟩ := own_formS ho; have hcv := own_str8 rfl ho Tryz.underlying9; rw [hs] at hcv; have c1 : w1.cell? ⟨lb, 1, none⟩ = some (.string z) := (show Blk w1 lb 114 _ from (hb.block lb HL.out.lt).trans HL.out).cell 1)
        | (go_at_call 71; refine (hN _).mono ?_; rintro e w8 ⟨rfl, rfl⟩))
      go_ret2
      exact ⟨rfl, Fr.of_below hb⟩
  · have d1 : (e != 0) = true := by simpa using he
    go_enter Tryz.func54, Tryz.ntmps54
    go_wp2_with (go_at_call 91; refine hG.mono ?_; rintro e w1 ⟨v, rfl, ho, hb⟩; obtain ⟨A1, k1, rfl⟩ := own_formS ho; have hcv := own_str8 rfl ho Tryz.underlying9; rw [hs] at hcv)
    go_ret2
    exact ⟨rfl, Fr.of_below hb⟩
end
end Go.Proofs.YtekajggjoeimoaaGreatDoor
set_option linter.unusedVariables false
namespace Go.Proofs.YtekajggjoeimoaaGreatDoor
open Go.RowKit Go.Sort
section
variable {B : Nat} {w : World} {lb c : Nat} {A : Option Addr} {b last : List UInt8} {u : Int}
set_option maxHeartbeats 4000000 in
set_option maxRecDepth 100000 in
theorem LFile_tail (hl : Blk w lb 114 #[.slice A b.length c, .string ⟨last.toArray⟩, .int .i64 u]) (hlb : B ≤ lb) (hr : Reads w B 1 A b.length (bl b)) (hc : b.length ≤ c) (h9 : b.length ≤ 900000)
    (t1 : (getB b).2.2 = 0) (t2 : nameOK ⟨(getB b).1.toArray⟩ = true) (t3 : ¬ (getB b).1 ≤ last)
    (ht : (getN (b.drop (getB b).2.1)).2.2 ≠ 0 ∨ 4096 < (getN (b.drop (getB b).2.1)).1 ∨ (b.drop ((getB b).2.1 + (getN (b.drop (getB b).2.1)).2.1)).length < 64 * (getN (b.drop (getB b).2.1)).1) :
    Calls Tryz.prog 54 #[.pointer (some ⟨lb, 0, none⟩)] w fun e w' => e = .returned (.tuple #[.pointer none, .bool false]) ∧ Fr (· = lb) w w' := by
  have hB : B ≤ w.heap.size := Nat.le_trans hlb (Nat.le_of_lt hl.lt)
  have hG := VGetB_of VGet_all A c b w hB hr (by omega) hc
  have hnl : (getB b).1.length ≤ 900000 := Nat.le_trans (getB_len b) h9
  obtain ⟨p1, p2, p3⟩ := putB_getB t1
  have hlw := hl.lt
  obtain ⟨a, rfl⟩ : ∃ a, A = some a := by obtain ⟨a, e, _⟩ := hr.2 (by omega); exact ⟨a, e⟩
  obtain ⟨⟨nm, n, e⟩, hg⟩ : ∃ g, getB b = g := ⟨_, rfl⟩
  rw [hg] at hG hnl p2 p3 t1 t2 t3 ht
  dsimp only at hG hnl p2 p3 t1 t2 t3 ht
  subst t1
  obtain ⟨a2, ha2, hr2⟩ := reads_rest n c hr p2 hc
  have hd2 : (b.drop n).length = b.length - n := List.length_drop ..
  have hG2 : ∀ W, Below B w W → _ := fun W hW => VGet_all (B := B) (some a2) (c - n) (b.drop n) W (Nat.le_trans hB hW.size) (by rw [hd2]; exact hr2.below hW) (by omega) (by omega)
  rw [hd2] at hG2
  have hq : (getN (b.drop n)).2.2 = 0 → (getN (b.drop n)).2.1 ≤ b.length - n := fun h => by have := (putN_getN h).2.1; omega
  have hq2 : (getN (b.drop n)).2.2 ≠ 0 → (getN (b.drop n)).2.1 = 0 := fun h => (getF_err 10 0 (b.drop n) h).2
  obtain ⟨⟨N, k, e2⟩, hg2⟩ : ∃ g, getN (b.drop n) = g := ⟨_, rfl⟩
  rw [hg2] at hG2 hq hq2 ht
  dsimp only at hG2 hq hq2 ht
  have hkn : n + k ≤ b.length := by
    by_cases h : e2 = 0
    · have := hq h; omega
    · have := hq2 h; omega
  obtain ⟨K, hK⟩ : ∃ K, n + k = K := ⟨_, rfl⟩
  rw [hK] at hkn ht
  obtain ⟨a3, ha3, hr3⟩ := reads_rest K c hr hkn hc
  rw [List.length_drop] at ht
  have c0 : w.cell? ⟨lb, 0, none⟩ = some (.slice (some a) b.length c) := hl.cell 0
  obtain ⟨s, hs⟩ : ∃ s : ByteArray, (⟨nm.toArray⟩ : ByteArray) = s := ⟨_, rfl⟩
  obtain ⟨z, hz⟩ : ∃ z : ByteArray, (⟨last.toArray⟩ : ByteArray) = z := ⟨_, rfl⟩
  have hN := isName_any s (by rw [← hs]; simp [ByteArray.size]; omega)
  rw [hz] at hl
  rw [hs] at t2
  rw [t2] at hN
  have hleq := fun W => str_leq hs hz W
  rw [show decide (nm ≤ last) = false by simpa using t3] at hleq
  have HL := Lib.hid hl
  have HG2 := Lib.hid hG2
  have i0 : (0 : Int) ≤ (n : Int) := by omega
  have i1 : (n : Int) ≤ (b.length : Int) := by omega
  have i2 : n ≤ c := by omega
  have hnk : IntKind.i64.wrap ((n : Int) + (k : Int)) = (K : Nat) := by rw [IntKind.wrap_i64]; omega
  have j0 : (0 : Int) ≤ (K : Int) := by omega
  have j1 : (K : Int) ≤ (b.length : Int) := by omega
  have j2 : K ≤ c := by omega
  have key : ((e2 != 0) = true) ∨ ((e2 != 0) = false ∧ decide ((4096 : Int) < (N : Int)) = true) ∨ ((e2 != 0) = false ∧ decide ((4096 : Int) < (N : Int)) = false ∧ IntKind.i64.wrap (N : Int) = (N : Nat) ∧ wrap64 ((N : Int) * 64) = (N : Int) * 64 ∧ decide (((b.length - K : Nat) : Int) < (N : Int) * 64) = true) := by
    by_cases h1 : e2 = 0
    · by_cases h2 : 4096 < N
      · exact .inr (.inl ⟨by simpa using h1, by simp; omega⟩)
      · refine .inr (.inr ⟨by simpa using h1, by simp; omega, by rw [IntKind.wrap_i64]; omega, by simp only [wrap64]; omega, ?_⟩)
        have : b.length - K < 64 * N := by
          rcases ht with h | h | h
          · exact absurd h1 h
          · exact absurd h h2
          · exact h
        simp; omega
    · exact .inl (by simpa using h1)
  clear hl hG2 t3 ht
  rcases key with d1 | ⟨d1, d2⟩ | ⟨d1, d2, d3, d5, d4⟩
  all_goals
    go_enter Tryz.func54, Tryz.ntmps54
    go_wp2_with (first
      | (go_at_call 91; refine hG.mono ?_; rintro e w1 ⟨v, rfl, ho, hb⟩; obtain ⟨A1, k1, rfl⟩ := own_formS ho; have hcv := own_str8 rfl ho Tryz.underlying9; rw [hs] at hcv; have hl1 : Blk w1 lb 114 _ := (hb.block lb HL.out.lt).trans HL.out; have c1 : w1.cell? ⟨lb, 1, none⟩ = some (.string z) := hl1.cell 1; have f1 := hl1.frozen 1; have hl2 := hl1.set_ 1 (.string s); have c2 : (w1.setCell ⟨lb, 1, none⟩ (.string s)).cell? ⟨lb, 0, none⟩ = some (.slice (some a) b.length c) := hl2.cell 0; have hlw1 : lb < (w1.setCell ⟨lb, 1, none⟩ (.string s)).heap.size := hl2.lt)
      | (go_at_call 71; refine (hN _).mono ?_; rintro e w8 ⟨rfl, rfl⟩)
      | (go_at_call 92; refine (HG2.out _ ((hb.mono hB).setCell (p := ⟨lb, 1, none⟩) hlb _)).mono ?_; rintro e w3 ⟨rfl, hb3⟩; have hl3 : Blk w3 lb 114 _ := (hb3.block lb hlw1).trans hl2; have c3 : w3.cell? ⟨lb, 0, none⟩ = some (.slice (some a) b.length c) := hl3.cell 0; have f3 := hl3.frozen 0; have hl4 := hl3.set_ 0 (.slice (some a3) (b.length - K) (c - K)); have c4 : (w3.setCell ⟨lb, 0, none⟩ (.slice (some a3) (b.length - K) (c - K))).cell? ⟨lb, 0, none⟩ = some (.slice (some a3) (b.length - K) (c - K)) := hl4.cell 0))
    go_ret2
    exact ⟨rfl, ((Fr.of_below (X := (· = lb)) hb).setCell (p := ⟨lb, 1, none⟩) (.inr rfl) _ |>.trans (Fr.of_below (X := (· = lb)) hb3) |>.setCell (p := ⟨lb, 0, none⟩) (.inr rfl) _)⟩
end
end Go.Proofs.YtekajggjoeimoaaGreatDoor
set_option linter.unusedVariables false
namespace Go.Proofs.YtekajggjoeimoaaGreatDoor
open Go.RowKit Go.Sort
theorem own_keep {w2 w3 : World} {B e size n : Nat} {v : Value} {xs : List Value} (h : w2.ownsRow B e size v n xs) (hb2 : Below w2.heap.size w2 w3) : w3.ownsRow B e size v n xs :=
  ⟨h.1, h.2.imp id fun ⟨g, cap, cur, e1, e2, e3, r⟩ => ⟨g, cap, cur, e1, e2, (hb2.block g (Array.getElem?_eq_some_iff.1 e3).1).trans e3, r⟩⟩
/-- What the loader leaves of a file. -/
def FileLd (B : Nat) (w : World) (lb : Nat) (u : Int) (x : Fl) (r : List UInt8) (e : Ending) (w' : World) : Prop :=
  ∃ f v0 v1 A' c', e = .returned (.tuple #[.pointer (some ⟨f, 0, none⟩), .bool true]) ∧ w.heap.size ≤ f ∧ Blk w' f 103 #[v0, v1] ∧ w'.ownsRow w.heap.size 101 1 v0 x.2.length (strs x.2) ∧ w'.ownsRow w.heap.size 101 1 v1 x.2.length (strs x.2) ∧ (∀ k, v0.ownBlock = some k → v1.ownBlock = some k → False) ∧
    Blk w' lb 114 #[.slice A' r.length c', .string ⟨x.1.toArray⟩, .int .i64 (u + (x.2.length : Nat))] ∧ Reads w' B 1 A' r.length (bl r) ∧ r.length ≤ c' ∧ Fr (· = lb) w w'
section
variable {B : Nat} {w : World} {lb c : Nat} {A : Option Addr} {b last : List UInt8} {u : Int}
set_option maxHeartbeats 4000000 in
set_option maxRecDepth 100000 in
theorem LFile_some (hl : Blk w lb 114 #[.slice A b.length c, .string ⟨last.toArray⟩, .int .i64 u]) (hlb : B ≤ lb) (hr : Reads w B 1 A b.length (bl b)) (hc : b.length ≤ c) (h9 : b.length ≤ 900000) (hu : 0 ≤ u ∧ u ≤ 100000)
    (t1 : (getB b).2.2 = 0) (t2 : nameOK ⟨(getB b).1.toArray⟩ = true) (t3 : ¬ (getB b).1 ≤ last)
    (ht : (getN (b.drop (getB b).2.1)).2.2 = 0 ∧ (getN (b.drop (getB b).2.1)).1 ≤ 4096 ∧ 64 * (getN (b.drop (getB b).2.1)).1 ≤ (b.drop ((getB b).2.1 + (getN (b.drop (getB b).2.1)).2.1)).length) :
    Calls Tryz.prog 54 #[.pointer (some ⟨lb, 0, none⟩)] w (FileLd B w lb u ((getB b).1, secs (getN (b.drop (getB b).2.1)).1 (b.drop ((getB b).2.1 + (getN (b.drop (getB b).2.1)).2.1))) ((b.drop ((getB b).2.1 + (getN (b.drop (getB b).2.1)).2.1)).drop (64 * (getN (b.drop (getB b).2.1)).1))) := by
  have hB : B ≤ w.heap.size := Nat.le_trans hlb (Nat.le_of_lt hl.lt)
  have hG := VGetB_of VGet_all A c b w hB hr (by omega) hc
  have hnl : (getB b).1.length ≤ 900000 := Nat.le_trans (getB_len b) h9
  obtain ⟨p1, p2, p3⟩ := putB_getB t1
  have hlw := hl.lt
  obtain ⟨a, rfl⟩ : ∃ a, A = some a := by obtain ⟨a, e, _⟩ := hr.2 (by omega); exact ⟨a, e⟩
  obtain ⟨⟨nm, n, e⟩, hg⟩ : ∃ g, getB b = g := ⟨_, rfl⟩
  rw [hg] at hG hnl p2 p3 t1 t2 t3 ht
  dsimp only at hG hnl p2 p3 t1 t2 t3 ht
  subst t1
  obtain ⟨a2, ha2, hr2⟩ := reads_rest n c hr p2 hc
  have hd2 : (b.drop n).length = b.length - n := List.length_drop ..
  have hG2 : ∀ W, Below B w W → _ := fun W hW => VGet_all (B := B) (some a2) (c - n) (b.drop n) W (Nat.le_trans hB hW.size) (by rw [hd2]; exact hr2.below hW) (by omega) (by omega)
  rw [hd2] at hG2
  have hq : (getN (b.drop n)).2.2 = 0 → (getN (b.drop n)).2.1 ≤ b.length - n := fun h => by have := (putN_getN h).2.1; omega
  have hq2 : (getN (b.drop n)).2.2 ≠ 0 → (getN (b.drop n)).2.1 = 0 := fun h => (getF_err 10 0 (b.drop n) h).2
  obtain ⟨⟨N, k, e2⟩, hg2⟩ : ∃ g, getN (b.drop n) = g := ⟨_, rfl⟩
  rw [hg2] at hG2 hq hq2 ht
  dsimp only at hG2 hq hq2 ht
  have hkn : n + k ≤ b.length := by
    by_cases h : e2 = 0
    · have := hq h; omega
    · have := hq2 h; omega
  obtain ⟨K, hK⟩ : ∃ K, n + k = K := ⟨_, rfl⟩
  rw [hK] at hkn ht
  obtain ⟨a3, ha3, hr3⟩ := reads_rest K c hr hkn hc
  rw [List.length_drop] at ht
  have c0 : w.cell? ⟨lb, 0, none⟩ = some (.slice (some a) b.length c) := hl.cell 0
  obtain ⟨s, hs⟩ : ∃ s : ByteArray, (⟨nm.toArray⟩ : ByteArray) = s := ⟨_, rfl⟩
  obtain ⟨z, hz⟩ : ∃ z : ByteArray, (⟨last.toArray⟩ : ByteArray) = z := ⟨_, rfl⟩
  have hN := isName_any s (by rw [← hs]; simp [ByteArray.size]; omega)
  rw [hz] at hl
  rw [hs] at t2
  rw [t2] at hN
  have hleq := fun W => str_leq hs hz W
  rw [show decide (nm ≤ last) = false by simpa using t3] at hleq
  have HL := Lib.hid hl
  have HG2 := Lib.hid hG2
  have i0 : (0 : Int) ≤ (n : Int) := by omega
  have i1 : (n : Int) ≤ (b.length : Int) := by omega
  have i2 : n ≤ c := by omega
  have hnk : IntKind.i64.wrap ((n : Int) + (k : Int)) = (K : Nat) := by rw [IntKind.wrap_i64]; omega
  have j0 : (0 : Int) ≤ (K : Int) := by omega
  have j1 : (K : Int) ≤ (b.length : Int) := by omega
  have j2 : K ≤ c := by omega
  obtain ⟨hE, hN4, hN64⟩ := ht
  subst hE
  have d2 : decide ((4096 : Int) < (N : Int)) = false := by simp; omega
  have d3 : IntKind.i64.wrap (N : Int) = (N : Nat) := by rw [IntKind.wrap_i64]; omega
  have d5 : wrap64 ((N : Int) * 64) = (N : Int) * 64 := by simp only [wrap64]; omega
  have d4 : decide (((b.length - K : Nat) : Int) < (N : Int) * 64) = false := by simp; omega
  have hun : wrap64 (u + (N : Int)) = u + (N : Int) := by simp only [wrap64]; omega
  rw [hg]
  dsimp only
  rw [hg2]
  dsimp only
  rw [hK]
  obtain ⟨R, hR⟩ : ∃ R, (b.drop K).drop (64 * N) = R := ⟨_, rfl⟩
  have hRl : (b.drop K).length - 64 * N = R.length := by rw [← hR]; simp only [List.length_drop]
  have hSl := secs_len N (b.drop K)
  have hdK : (b.drop K).length = b.length - K := List.length_drop ..
  have hS : ∀ W, Blk W lb 114 #[.slice (some a3) (b.length - K) (c - K), .string s, .int .i64 (u + (N : Int))] → Reads W B 1 (some a3) (b.length - K) (bl (b.drop K)) → Calls Tryz.prog 93 #[.pointer (some ⟨lb, 0, none⟩), .int .i64 N] W fun e w' => ∃ v A' c', e = .returned v ∧ w'.ownsRow W.heap.size 101 1 v N (strs (secs N (b.drop K))) ∧ Blk w' lb 114 #[.slice A' R.length c', .string s, .int .i64 (u + (N : Int))] ∧ Reads w' B 1 A' R.length (bl R) ∧ R.length ≤ c' ∧ Fr (· = lb) W w' := fun W h1 h2 => by
    rw [← hdK] at h1 h2
    have h := LSec_any N h1 hlb h2 (by rw [hdK]; omega) hN4 (by rw [hdK]; omega)
    rw [hRl, hR] at h
    exact h
  have hC : ∀ (W : World) (A : Option Addr) (c : Nat) (B : Nat), W.ownsRow B 101 1 (.slice A N c) N (strs (secs N (b.drop K))) → Calls Tryz.prog 53 #[.slice A N c] W fun e w' => ∃ A' c', e = .returned (.slice A' N c') ∧ w'.ownsRow W.heap.size 101 1 (.slice A' N c') N (strs (secs N (b.drop K))) ∧ Below W.heap.size W w' := fun W A c B h => by
    have h2 : RowX (fun _ => True) W 101 1 (.slice A (secs N (b.drop K)).length c) (secs N (b.drop K)).length (strs (secs N (b.drop K))) := by rw [hSl]; exact ⟨own_base h, fun _ _ => trivial⟩
    have h3 := Clone_row h2 (by rw [hSl]; omega)
    rw [hSl] at h3
    exact h3
  have hdd : List.drop (64 * N) (List.drop K b) = R := hR
  obtain ⟨L, hL⟩ : ∃ L, secs N (b.drop K) = L := ⟨_, rfl⟩
  rw [hL] at hS hC hSl
  rw [hR, hL]
  have HR := Lib.hid (And.intro hR (And.intro hRl (And.intro hSl (And.intro hr3 (And.intro hS hC)))))
  clear hR hRl hL hdd hS hC
  clear hl hG2 t3
  go_enter Tryz.func54, Tryz.ntmps54
  go_wp2_with (first
    | (go_at_call 91; refine hG.mono ?_; rintro e w1 ⟨v, rfl, ho, hb⟩; obtain ⟨A1, k1, rfl⟩ := own_formS ho; have hcv := own_str8 rfl ho Tryz.underlying9; rw [hs] at hcv; have hl1 : Blk w1 lb 114 _ := (hb.block lb HL.out.lt).trans HL.out; have c1 : w1.cell? ⟨lb, 1, none⟩ = some (.string z) := hl1.cell 1; have f1 := hl1.frozen 1; have hl2 := hl1.set_ 1 (.string s); have c2 : (w1.setCell ⟨lb, 1, none⟩ (.string s)).cell? ⟨lb, 0, none⟩ = some (.slice (some a) b.length c) := hl2.cell 0; have hlw1 : lb < (w1.setCell ⟨lb, 1, none⟩ (.string s)).heap.size := hl2.lt)
    | (go_at_call 71; refine (hN _).mono ?_; rintro e w8 ⟨rfl, rfl⟩)
    | (go_at_call 92; refine (HG2.out _ ((hb.mono hB).setCell (p := ⟨lb, 1, none⟩) hlb _)).mono ?_; rintro e w3 ⟨rfl, hb3⟩; have hl3 : Blk w3 lb 114 _ := (hb3.block lb hlw1).trans hl2; have c3 : w3.cell? ⟨lb, 0, none⟩ = some (.slice (some a) b.length c) := hl3.cell 0; have f3 := hl3.frozen 0; have hl4 := hl3.set_ 0 (.slice (some a3) (b.length - K) (c - K)); have c4 : (w3.setCell ⟨lb, 0, none⟩ (.slice (some a3) (b.length - K) (c - K))).cell? ⟨lb, 0, none⟩ = some (.slice (some a3) (b.length - K) (c - K)) := hl4.cell 0; have c32 : w3.cell? ⟨lb, 2, none⟩ = some (.int .i64 u) := hl3.cell 2; have f32 := hl4.frozen 2; have hl5 : Blk ((w3.setCell ⟨lb, 0, none⟩ (.slice (some a3) (b.length - K) (c - K))).setCell ⟨lb, 2, none⟩ (.int .i64 (u + (N : Int)))) lb 114 #[.slice (some a3) (b.length - K) (c - K), .string s, .int .i64 (u + (N : Int))] := hl4.set_ 2 (.int .i64 (u + (N : Int))); have hF5 : Fr (· = lb) w ((w3.setCell ⟨lb, 0, none⟩ (.slice (some a3) (b.length - K) (c - K))).setCell ⟨lb, 2, none⟩ (.int .i64 (u + (N : Int)))) := ((((Fr.of_below (X := (· = lb)) hb).setCell (p := ⟨lb, 1, none⟩) (.inr rfl) _).trans (Fr.of_below (X := (· = lb)) hb3)).setCell (p := ⟨lb, 0, none⟩) (.inr rfl) _).setCell (p := ⟨lb, 2, none⟩) (.inr rfl) _; have hB5 := fr_below hF5 (fun j hj => by subst hj; exact hlb) hB)
    | (go_at_call 93; refine (HR.out.2.2.2.2.1 _ hl5 (HR.out.2.2.2.1.below hB5)).mono ?_; rintro e w6 ⟨v6, A6, c6, rfl, ho6, hl6, hr6, hc6, hf6⟩; obtain ⟨A7, c7, rfl⟩ := own_formN ho6)
    | (go_at_call 53; refine (HR.out.2.2.2.2.2 _ _ _ _ ho6).mono ?_; rintro e w8 ⟨A8, c8, rfl, ho8, hb8⟩))
  go_ret2
  subst hSl
  have hA8 : Below w8.heap.size w8 (w8.alloc (.cells #[.slice A7 L.length c7, .slice A8 L.length c8] 103)) := (Below.refl _ w8).alloc (Nat.le_refl _) _
  have s5 := hF5.size
  have s6 := hf6.size
  have s8 := hb8.size
  have b8 : Below w6.heap.size w6 (w8.alloc (.cells #[.slice A7 L.length c7, .slice A8 L.length c8] 103)) := hb8.trans (hA8.mono s8)
  refine ⟨w8.heap.size, .slice A7 L.length c7, .slice A8 L.length c8, A6, c6, rfl, by omega, Blk.new w8 _ _, own_le (own_keep ho6 b8) s5, own_le (own_keep ho8 hA8) (by omega), fun k h1 h2 => ?_, ?_, hr6.below (b8.mono (Nat.le_trans hB (Nat.le_trans s5 s6))), hc6, (hF5.trans hf6).trans (Fr.of_below b8)⟩
  · have e1 := (ho6.lt k h1).2
    have e2 := (ho8.lt k h2).1
    omega
  · show Blk _ lb 114 #[.slice A6 R.length c6, .string ⟨nm.toArray⟩, .int .i64 (u + (L.length : Nat))]
    rw [hs]
    exact (b8.block lb hl6.lt).trans hl6
end
end Go.Proofs.YtekajggjoeimoaaGreatDoor
