/- The disk in plain words: what each call answers, and what is there behind it. -/
set_option linter.unusedVariables false
namespace Go.Proofs.YtekajggjoeimoaaDoor
/-- A name, and its file. -/
structure En where
  nm : ByteArray
  id : Nat
/-- A change of a directory. -/
inductive Ch where
  | new (nm : ByteArray) (id : Nat)
  | gone (nm : ByteArray)
  | moved (a b : ByteArray)
/-- A write that is pending. -/
structure PW where
  id : Nat
  n : Nat
  s : ByteArray
def turnP (d : List En) : Ch → List En
  | .new nm id => d ++ [⟨nm, id⟩]
  | .gone nm => d.filter fun e => decide (e.nm ≠ nm)
  | .moved a b => if a = b then d else d.filterMap fun e => if e.nm = a then some ⟨b, e.id⟩ else if e.nm = b then none else some e
def findP (nm : ByteArray) (d : List En) : Option Nat := (d.find? fun e => decide (e.nm = nm)).map (·.id)
structure DP where
  room : Int
  dir : List En
  chs : List Ch
  files : List (List ByteArray)
  wrs : List PW
  armed : Bool
  after : Int
  code : Int
def DP.now (p : DP) : List En := p.chs.foldl turnP p.dir
def DP.file (p : DP) (id : Nat) : List ByteArray := p.files.getD id []
def putW (id : Nat) (l : List ByteArray) (x : PW) : List ByteArray := if x.id = id then l.set x.n x.s else l
/-- A file's sectors now. -/
def DP.cont (p : DP) (id : Nat) : List ByteArray := p.wrs.foldl (putW id) (p.file id)
def okC (c : UInt8) : Bool := (decide (97 ≤ c.toNat) && decide (c.toNat ≤ 122)) || (decide (48 ≤ c.toNat) && decide (c.toNat ≤ 57)) || decide (c.toNat = 46)
def nameOK (s : ByteArray) : Bool := decide (1 ≤ s.size) && decide (s.size ≤ 16) && s.data.toList.all okC
def failP (p : DP) : Int × DP := if p.armed = false then (0, p) else if 0 < p.after then (0, { p with after := p.after - 1 }) else (p.code, { p with armed := false })
def createP (p0 : DP) (nm : ByteArray) : Int × DP :=
  let p := (failP p0).2
  if (failP p0).1 ≠ 0 then ((failP p0).1, p)
  else if nameOK nm = false then (2, p)
  else if (findP nm p.now).isSome then (40, p)
  else if 8 ≤ p.now.length then (6, p)
  else (0, { p with files := p.files ++ [[]], chs := p.chs ++ [.new nm p.files.length] })
def removeP (p0 : DP) (nm : ByteArray) : Int × DP :=
  let p := (failP p0).2
  if (failP p0).1 ≠ 0 then ((failP p0).1, p)
  else if findP nm p.now = none then (7, p)
  else (0, { p with chs := p.chs ++ [.gone nm] })
def renameP (p0 : DP) (a b : ByteArray) : Int × DP :=
  let p := (failP p0).2
  if (failP p0).1 ≠ 0 then ((failP p0).1, p)
  else if findP a p.now = none then (7, p)
  else if nameOK b = false then (2, p)
  else (0, { p with chs := p.chs ++ [.moved a b] })
def DP.used (p : DP) : Nat := (p.now.map fun e => (p.file e.id).length).sum
def zeroS : ByteArray := ⟨(List.replicate 64 0).toArray⟩
def growP (p0 : DP) (nm : ByteArray) (n : Int) : Int × DP :=
  let p := (failP p0).2
  if (failP p0).1 ≠ 0 then ((failP p0).1, p)
  else match findP nm p.now with
    | none => (7, p)
    | some id =>
      if n < (p.file id).length ∨ 4096 < n then (2, p)
      else if p.room < p.used + n - (p.file id).length then (42, p)
      else (0, { p with files := p.files.set id (p.file id ++ List.replicate (n.toNat - (p.file id).length) zeroS) })
def writeP (p0 : DP) (nm : ByteArray) (n : Int) (s : ByteArray) : Int × DP :=
  let p := (failP p0).2
  if (failP p0).1 ≠ 0 then ((failP p0).1, p)
  else match findP nm p.now with
    | none => (7, p)
    | some id =>
      if n < 0 ∨ (p.file id).length ≤ n then (43, p)
      else if s.size ≠ 64 then (2, p)
      else (0, { p with wrs := p.wrs ++ [⟨id, n.toNat, s⟩] })
def lookP (p : DP) (nm : ByteArray) (n : Int) : Int × ByteArray := match findP nm p.now with
  | none => (7, ByteArray.empty)
  | some id => if n < 0 ∨ (p.file id).length ≤ n then (43, ByteArray.empty) else (0, (p.cont id).getD n.toNat ByteArray.empty)
def readP (p0 : DP) (nm : ByteArray) (n : Int) : Int × ByteArray × DP :=
  let p := (failP p0).2
  if (failP p0).1 ≠ 0 then ((failP p0).1, ByteArray.empty, p)
  else ((lookP p nm n).1, (lookP p nm n).2, p)
def syncP (p0 : DP) (nm : ByteArray) : Int × DP :=
  let p := (failP p0).2
  if (failP p0).1 ≠ 0 then ((failP p0).1, p)
  else match findP nm p.now with
    | none => (7, p)
    | some id => (0, { p with files := p.files.set id (p.cont id), wrs := p.wrs.filter fun x => decide (x.id ≠ id) })
def syncdirP (p0 : DP) : Int × DP :=
  let p := (failP p0).2
  if (failP p0).1 ≠ 0 then ((failP p0).1, p)
  else (0, { p with dir := p.now, chs := [] })
def armedP (after code : Int) : Bool := decide (0 ≤ after) && (code == 41 || code == 42)
def armP (p : DP) (after code : Int) : DP := { p with armed := armedP after code, after := after, code := code }
def keepW (fs : List (List ByteArray)) (x : PW) : List (List ByteArray) := fs.modify x.id fun l => l.set x.n x.s
def crashW (keep : List Int) : Nat → List PW → List (List ByteArray) → List (List ByteArray)
  | _, [], fs => fs
  | i, x :: l, fs => crashW keep (i + 1) l (if (i : Int) ∈ keep then keepW fs x else fs)
def crashP (p : DP) (changes : Int) (keep : List Int) : DP :=
  { p with dir := (p.chs.take changes.toNat).foldl turnP p.dir, chs := [], files := crashW keep 0 p.wrs p.files, wrs := [], armed := false }
def newP (room : Int) : DP := ⟨room, [], [], [], [], false, 0, 0⟩

/-! ### Directories as functions -/
theorem findP_nil (nm : ByteArray) : findP nm [] = none := rfl
theorem findP_cons (nm : ByteArray) (e : En) (d : List En) : findP nm (e :: d) = if e.nm = nm then some e.id else findP nm d := by
  unfold findP
  rw [List.find?_cons]
  by_cases h : e.nm = nm
  · simp [h]
  · simp [h]
theorem findP_mem {nm : ByteArray} {id : Nat} : ∀ {d : List En}, findP nm d = some id → (⟨nm, id⟩ : En) ∈ d
  | [], h => by cases h
  | e :: d, h => by
    rw [findP_cons] at h
    by_cases he : e.nm = nm
    · rw [if_pos he] at h
      cases h; subst he
      exact List.mem_cons_self
    · rw [if_neg he] at h
      exact List.mem_cons_of_mem _ (findP_mem h)
theorem findP_none {nm : ByteArray} : ∀ {d : List En}, findP nm d = none → ∀ e ∈ d, e.nm ≠ nm
  | [], _, e, h => by cases h
  | x :: d, h, e, he => by
    rw [findP_cons] at h
    by_cases hx : x.nm = nm
    · rw [if_pos hx] at h; cases h
    · rw [if_neg hx] at h
      rcases List.mem_cons.1 he with rfl | he
      · exact hx
      · exact findP_none h e he
def names (d : List En) : List ByteArray := d.map (·.nm)
theorem findP_of_mem : ∀ {d : List En}, (names d).Nodup → ∀ {e : En}, e ∈ d → findP e.nm d = some e.id
  | [], _, e, h => by cases h
  | x :: d, hn, e, he => by
    rw [findP_cons]
    obtain ⟨h1, h2⟩ := List.nodup_cons.1 hn
    rcases List.mem_cons.1 he with rfl | he
    · rw [if_pos rfl]
    · rw [if_neg (fun h => h1 (List.mem_map.2 ⟨e, he, h.symm⟩))]
      exact findP_of_mem h2 he
theorem findP_append (nm : ByteArray) (d : List En) (e : En) : findP nm (d ++ [e]) = (findP nm d).or (if e.nm = nm then some e.id else none) := by
  induction d with
  | nil => rw [List.nil_append, findP_cons]; simp [findP_nil]
  | cons x d ih =>
    rw [List.cons_append, findP_cons, findP_cons, ih]
    by_cases h : x.nm = nm
    · rw [if_pos h, if_pos h]; rfl
    · rw [if_neg h, if_neg h]
theorem findP_filter (nm a : ByteArray) (d : List En) : findP nm (d.filter fun e => decide (e.nm ≠ a)) = if nm = a then none else findP nm d := by
  induction d with
  | nil => simp [findP_nil]
  | cons x d ih =>
    rw [List.filter_cons]
    by_cases h : x.nm = a
    · rw [if_neg (by simp [h]), ih]
      by_cases hn : nm = a
      · rw [if_pos hn, if_pos hn]
      · rw [if_neg hn, if_neg hn, findP_cons, if_neg (by rw [h]; exact fun e => hn e.symm)]
    · rw [if_pos (by simp [h]), findP_cons, findP_cons, ih]
      by_cases hx : x.nm = nm
      · rw [if_pos hx, if_pos hx, if_neg (by rw [← hx]; exact h)]
      · rw [if_neg hx, if_neg hx]
theorem moved_nm (a b : ByteArray) (hab : a ≠ b) (nm : ByteArray) (d : List En) (hn : (names d).Nodup) : findP nm (d.filterMap fun e => if e.nm = a then some ⟨b, e.id⟩ else if e.nm = b then none else some e) = if nm = b then findP a d else if nm = a then none else findP nm d := by
  induction d with
  | nil => simp [findP_nil]
  | cons x d ih =>
    obtain ⟨h1, h2⟩ := List.nodup_cons.1 hn
    have ih := ih h2
    rw [List.filterMap_cons]
    by_cases ha : x.nm = a
    · simp only [if_pos ha]
      rw [findP_cons, ih]
      by_cases hb : nm = b
      · rw [if_pos hb.symm, if_pos hb, findP_cons, if_pos ha]
      · rw [if_neg hb, if_neg hb, if_neg (fun e => hb e.symm)]
        by_cases hna : nm = a
        · rw [if_pos hna, if_pos hna]
        · rw [if_neg hna, if_neg hna, findP_cons, if_neg (by rw [ha]; exact fun e => hna e.symm)]
    · by_cases hxb : x.nm = b
      · simp only [if_neg ha, if_pos hxb]
        rw [ih]
        by_cases hb : nm = b
        · rw [if_pos hb, if_pos hb, findP_cons, if_neg ha]
        · rw [if_neg hb, if_neg hb]
          by_cases hna : nm = a
          · rw [if_pos hna, if_pos hna]
          · rw [if_neg hna, if_neg hna, findP_cons, if_neg (by rw [hxb]; exact fun e => hb e.symm)]
      · simp only [if_neg ha, if_neg hxb]
        rw [findP_cons, ih]
        by_cases hb : nm = b
        · rw [if_pos hb, if_pos hb, findP_cons, if_neg ha, if_neg (by rw [hb]; exact hxb)]
        · rw [if_neg hb, if_neg hb, findP_cons]
          by_cases hna : nm = a
          · rw [if_pos hna, if_pos hna, if_neg (by rw [hna]; exact ha)]
          · rw [if_neg hna, if_neg hna]
/-- What a change makes of a directory, as a function. -/
def turnF {α : Type} (f : ByteArray → Option α) (nf : Nat → α) : Ch → ByteArray → Option α
  | .new nm id, x => if x = nm then some (nf id) else f x
  | .gone nm, x => if x = nm then none else f x
  | .moved a b, x => if x = b then f a else if x = a then none else f x
def okCh (d : List En) : Ch → Prop
  | .new nm _ => findP nm d = none ∧ nameOK nm = true ∧ d.length < 8
  | .gone nm => (findP nm d).isSome
  | .moved a b => (findP a d).isSome ∧ nameOK b = true
theorem turnP_find (d : List En) (hn : (names d).Nodup) (c : Ch) (hc : okCh d c) (x : ByteArray) : findP x (turnP d c) = turnF (fun y => findP y d) id c x := by
  cases c with
  | new nm i =>
    unfold turnP turnF
    rw [findP_append]
    by_cases h : x = nm
    · subst h
      rw [hc.1]; simp
    · simp only [if_neg h]
      rw [if_neg (fun e => h (Eq.symm e))]
      cases findP x d <;> rfl
  | gone nm => exact findP_filter x nm d
  | moved a b =>
    simp only [turnP, turnF]
    by_cases h : a = b
    · subst h
      rw [if_pos rfl]
      by_cases hx : x = a
      · rw [if_pos hx, hx]
      · rw [if_neg hx, if_neg hx]
    · rw [if_neg h]
      exact moved_nm a b h x d hn
theorem turnP_nodup (d : List En) (hn : (names d).Nodup) (c : Ch) (hc : okCh d c) : (names (turnP d c)).Nodup := by
  cases c with
  | new nm i =>
    simp only [turnP, names]
    rw [List.map_append, List.nodup_append]
    refine ⟨hn, by simp, fun a ha b hb e => ?_⟩
    simp only [List.map_cons, List.map_nil, List.mem_singleton] at hb
    subst hb
    obtain ⟨y, hy, rfl⟩ := List.mem_map.1 ha
    exact findP_none hc.1 y hy e
  | gone nm => exact hn.sublist (List.filter_sublist.map _)
  | moved a b =>
    simp only [turnP]
    by_cases h : a = b
    · rw [if_pos h]; exact hn
    · rw [if_neg h]
      clear hc
      induction d with
      | nil => simp [names]
      | cons x d ih =>
        obtain ⟨h1, h2⟩ := List.nodup_cons.1 hn
        have ih := ih h2
        have hmem : ∀ y, y ∈ names (d.filterMap fun e => if e.nm = a then some ⟨b, e.id⟩ else if e.nm = b then none else some e) → (y = b ∧ a ∈ names d) ∨ (y ∈ names d ∧ y ≠ b) := by
          intro y hy
          obtain ⟨e, he, rfl⟩ := List.mem_map.1 hy
          obtain ⟨z, hz, hze⟩ := List.mem_filterMap.1 he
          by_cases hza : z.nm = a
          · rw [if_pos hza] at hze; cases hze
            exact .inl ⟨rfl, List.mem_map.2 ⟨z, hz, hza⟩⟩
          · rw [if_neg hza] at hze
            by_cases hzb : z.nm = b
            · rw [if_pos hzb] at hze; cases hze
            · rw [if_neg hzb] at hze; cases hze
              exact .inr ⟨List.mem_map.2 ⟨_, hz, rfl⟩, hzb⟩
        rw [List.filterMap_cons]
        by_cases ha : x.nm = a
        · simp only [if_pos ha]
          refine List.nodup_cons.2 ⟨fun hm => ?_, ih⟩
          rcases hmem _ hm with ⟨_, h3⟩ | ⟨_, h3⟩
          · rw [← ha] at h3; exact h1 h3
          · exact h3 rfl
        · by_cases hb : x.nm = b
          · simp only [if_neg ha, if_pos hb]; exact ih
          · simp only [if_neg ha, if_neg hb]
            refine List.nodup_cons.2 ⟨fun hm => ?_, ih⟩
            rcases hmem _ hm with ⟨h3, _⟩ | ⟨h3, _⟩
            · exact hb h3
            · exact h1 h3
theorem turnP_len (d : List En) (c : Ch) (hc : okCh d c) (h : d.length ≤ 8) : (turnP d c).length ≤ 8 := by
  cases c with
  | new nm i => simp only [turnP]; rw [List.length_append]; have := hc.2.2; simp; omega
  | gone nm => exact Nat.le_trans (List.length_filter_le _ _) h
  | moved a b =>
    simp only [turnP]
    by_cases hh : a = b
    · rw [if_pos hh]; exact h
    · rw [if_neg hh]; exact Nat.le_trans (List.length_filterMap_le _ _) h
theorem turnP_name (d : List En) (c : Ch) (hc : okCh d c) (h : ∀ e ∈ d, nameOK e.nm = true) : ∀ e ∈ turnP d c, nameOK e.nm = true := by
  cases c with
  | new nm i =>
    intro e he
    rcases List.mem_append.1 he with he | he
    · exact h e he
    · obtain rfl := List.mem_singleton.1 he; exact hc.2.1
  | gone nm => exact fun e he => h e (List.mem_filter.1 he).1
  | moved a b =>
    simp only [turnP]
    by_cases hh : a = b
    · rw [if_pos hh]; exact h
    · rw [if_neg hh]
      intro e he
      obtain ⟨z, hz, hze⟩ := List.mem_filterMap.1 he
      by_cases hza : z.nm = a
      · rw [if_pos hza] at hze; cases hze; exact hc.2
      · rw [if_neg hza] at hze
        by_cases hzb : z.nm = b
        · rw [if_pos hzb] at hze; cases hze
        · rw [if_neg hzb] at hze; cases hze; exact h _ hz
def Ch.ids : Ch → List Nat
  | .new _ i => [i]
  | _ => []
theorem turnP_ids (d : List En) (c : Ch) : ∀ e ∈ turnP d c, e.id ∈ d.map (·.id) ++ c.ids := by
  cases c with
  | new nm i =>
    intro e he
    rcases List.mem_append.1 he with he | he
    · exact List.mem_append_left _ (List.mem_map.2 ⟨e, he, rfl⟩)
    · obtain rfl := List.mem_singleton.1 he; exact List.mem_append_right _ (by simp [Ch.ids])
  | gone nm => exact fun e he => List.mem_append_left _ (List.mem_map.2 ⟨e, (List.mem_filter.1 he).1, rfl⟩)
  | moved a b =>
    simp only [turnP]
    by_cases hh : a = b
    · rw [if_pos hh]; exact fun e he => List.mem_append_left _ (List.mem_map.2 ⟨e, he, rfl⟩)
    · rw [if_neg hh]
      intro e he
      obtain ⟨z, hz, hze⟩ := List.mem_filterMap.1 he
      refine List.mem_append_left _ (List.mem_map.2 ⟨z, hz, ?_⟩)
      by_cases hza : z.nm = a
      · rw [if_pos hza] at hze; cases hze; rfl
      · rw [if_neg hza] at hze
        by_cases hzb : z.nm = b
        · rw [if_pos hzb] at hze; cases hze
        · rw [if_neg hzb] at hze; cases hze; rfl
def okChs : List En → List Ch → Prop
  | _, [] => True
  | d, c :: l => okCh d c ∧ okChs (turnP d c) l
theorem okChs_append : ∀ {l : List Ch} {d : List En} {c : Ch}, okChs d (l ++ [c]) ↔ okChs d l ∧ okCh (l.foldl turnP d) c
  | [], d, c => by simp [okChs]
  | x :: l, d, c => by
    show (okCh d x ∧ okChs (turnP d x) (l ++ [c])) ↔ (okCh d x ∧ okChs (turnP d x) l) ∧ okCh (l.foldl turnP (turnP d x)) c
    rw [okChs_append]
    exact and_assoc.symm
theorem okChs_take : ∀ {l : List Ch} {d : List En} (k : Nat), okChs d l → okChs d (l.take k)
  | [], d, k, h => by simp [okChs]
  | x :: l, d, 0, h => trivial
  | x :: l, d, k + 1, h => ⟨h.1, okChs_take k h.2⟩
structure DirOK (d : List En) : Prop where
  nodup : (names d).Nodup
  len : d.length ≤ 8
  name : ∀ e ∈ d, nameOK e.nm = true
theorem DirOK.turn {d : List En} (h : DirOK d) {c : Ch} (hc : okCh d c) : DirOK (turnP d c) := ⟨turnP_nodup d h.nodup c hc, turnP_len d c hc h.len, turnP_name d c hc h.name⟩
theorem DirOK.fold : ∀ {l : List Ch} {d : List En}, DirOK d → okChs d l → DirOK (l.foldl turnP d)
  | [], d, h, _ => h
  | c :: l, d, h, hc => DirOK.fold (l := l) (d := turnP d c) (h.turn hc.1) hc.2
theorem fold_ids : ∀ {l : List Ch} {d : List En}, ∀ e ∈ l.foldl turnP d, e.id ∈ d.map (·.id) ++ l.flatMap Ch.ids
  | [], d, e, h => by simpa using ⟨e, h, rfl⟩
  | c :: l, d, e, h => by
    have := fold_ids (l := l) (d := turnP d c) e h
    rw [List.flatMap_cons]
    rcases List.mem_append.1 this with h1 | h1
    · obtain ⟨x, hx, hxe⟩ := List.mem_map.1 h1
      have := turnP_ids d c x hx
      rw [hxe] at this
      rcases List.mem_append.1 this with h2 | h2
      · exact List.mem_append_left _ h2
      · exact List.mem_append_right _ (List.mem_append_left _ h2)
    · exact List.mem_append_right _ (List.mem_append_right _ h1)

/-! ### What is there -/
/-- The files that may be met. -/
def DP.live (p : DP) : List Nat := p.dir.map (·.id) ++ p.chs.flatMap Ch.ids ++ p.wrs.map (·.id)
theorem DP.now_live (p : DP) : ∀ e ∈ p.now, e.id ∈ p.live := fun e he => List.mem_append_left _ (fold_ids e he)
structure WF (p : DP) : Prop where
  dir : DirOK p.dir
  chs : okChs p.dir p.chs
  ids : ∀ i ∈ p.live, i < p.files.length
  wrs : ∀ x ∈ p.wrs, x.n < (p.file x.id).length ∧ x.s.size = 64
  files : ∀ l ∈ p.files, l.length ≤ 4096 ∧ ∀ s ∈ l, s.size = 64
  room : 0 ≤ p.room ∧ p.room ≤ 4096
theorem WF.now {p : DP} (h : WF p) : DirOK p.now := h.dir.fold h.chs
theorem WF.file_len {p : DP} (h : WF p) (i : Nat) : (p.file i).length ≤ 4096 := by
  unfold DP.file
  rw [List.getD_eq_getElem?_getD]
  cases e : p.files[i]? with
  | none => simp
  | some l => exact (h.files l (List.mem_of_getElem? e)).1
theorem putW_len (id : Nat) (x : PW) (l : List ByteArray) : (putW id l x).length = l.length := by
  unfold putW; split <;> simp
theorem foldW_len (id : Nat) : ∀ (ws : List PW) (l : List ByteArray), (ws.foldl (putW id) l).length = l.length
  | [], l => rfl
  | x :: ws, l => (foldW_len id ws (putW id l x)).trans (putW_len id x l)
theorem DP.cont_len (p : DP) (id : Nat) : (p.cont id).length = (p.file id).length := foldW_len id p.wrs _
end Go.Proofs.YtekajggjoeimoaaDoor
