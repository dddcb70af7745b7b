/- The disk in memory: its own blocks, and what they hold. -/
import Derived.Test.YtekajggjoeimoaaDoorDm
import Derived.Test.YtekajggjoeimoaaDoorPa
set_option linter.unusedVariables false
namespace Go.Proofs.YtekajggjoeimoaaDoor
open Go.RowKit
/-- A row of one's own, in a footprint. -/
def RowX (X : Nat → Prop) (w : World) (e size : Nat) (v : Value) (n : Nat) (xs : List Value) : Prop := w.ownsRow 0 e size v n xs ∧ ∀ k, v.ownBlock = some k → X k
section
variable {X X' : Nat → Prop} {w w' : World} {e size n : Nat} {v : Value} {xs : List Value}
theorem RowX.keep (h : RowX X w e size v n xs) (hs : ∀ k cs, X k → v.ownBlock = some k → w.heap[k]? = some (.cells cs e (0, 0)) → w'.heap[k]? = some (.cells cs e (0, 0))) (hX : ∀ k, X k → X' k) : RowX X' w' e size v n xs := by
  refine ⟨⟨h.1.1, h.1.2.imp id ?_⟩, fun k hk => hX k (h.2 k hk)⟩
  rintro ⟨g, cap, cur, rfl, h1, h2, h3⟩
  exact ⟨g, cap, cur, rfl, h1, hs g cur (h.2 g rfl) rfl h2, h3⟩
theorem RowX.form (h : RowX X w e size v n xs) : ∃ A c, v = .slice A n c := own_formN h.1
theorem RowX.lt (h : RowX X w e size v n xs) {k : Nat} (hk : v.ownBlock = some k) : k < w.heap.size := (h.1.lt k hk).2
theorem RowX.nil : RowX X w e size (.slice none 0 0) 0 [] := ⟨World.ownsRow_nil _ _ _ _, fun k hk => by cases hk⟩
theorem own_base {B : Nat} (h : w.ownsRow B e size v n xs) : w.ownsRow 0 e size v n xs := ⟨h.1, h.2.imp id fun ⟨g, cap, cur, e1, _, r⟩ => ⟨g, cap, cur, e1, Nat.zero_le _, r⟩⟩
theorem RowX.of_own {B : Nat} (h : w.ownsRow B e size v n xs) (hX : ∀ k, v.ownBlock = some k → X k) : RowX X w e size v n xs := ⟨own_base h, hX⟩
theorem RowX.block (h : RowX X w e size v n xs) {k : Nat} (hk : v.ownBlock = some k) : ∃ cur, w.heap[k]? = some (.cells cur e (0, 0)) := by
  rcases h.1.2 with ⟨rfl, _⟩ | ⟨g, cap, cur, rfl, _, h2, _⟩
  · cases hk
  · cases hk; exact ⟨cur, h2⟩
/-- The row itself. -/
theorem RowX.row (h : RowX X w e size v n xs) (h0 : 0 < n) : ∃ (g c : Nat) (cur : Array Value), v = .slice (some ⟨g, 0, none⟩) n c ∧ X g ∧ Blk w g e cur ∧ n * size ≤ cur.size ∧ ∀ (j : Nat) (u : Value), xs[j]? = some u → cur[j]? = some u := by
  rcases h.1.2 with ⟨_, h1⟩ | ⟨g, cap, cur, rfl, _, h2, h3, h4, h5, h6⟩
  · omega
  · refine ⟨g, cap, cur, rfl, h.2 g rfl, h2, by rw [h5]; exact Nat.mul_le_mul_right _ h3, fun j u hu => ?_⟩
    rw [← h6, List.getElem?_take] at hu
    by_cases hlt : j < n * size
    · rw [if_pos hlt] at hu; simpa using hu
    · rw [if_neg hlt] at hu; cases hu
theorem RowX.reads (h : RowX X w e size v n xs) {A : Option Addr} {c : Nat} (hv : v = .slice A n c) : Reads w w.heap.size size A n xs := Reads.of_own (hv ▸ h.1)
end
def upd {α : Type} (C : Nat → Bool → α) (f : Nat) (b : Bool) (x : α) : Nat → Bool → α := fun g a => if g = f ∧ a = b then x else C g a
theorem upd_at {α : Type} (C : Nat → Bool → α) (f : Nat) (b : Bool) (x : α) : upd C f b x f b = x := if_pos ⟨rfl, rfl⟩
theorem upd_ne {α : Type} (C : Nat → Bool → α) {f g : Nat} {b a : Bool} (x : α) (h : ¬ (g = f ∧ a = b)) : upd C f b x g a = C g a := if_neg h
/-- The files: their rows are apart. -/
structure FilesV (X : Nat → Prop) (w : World) (fs : List Nat) (V : Nat → Bool → Value) (C : Nat → Bool → List ByteArray) : Prop where
  blk : ∀ f ∈ fs, Blk w f 79 #[V f false, V f true]
  inX : ∀ f ∈ fs, X f
  row : ∀ f ∈ fs, ∀ b, RowX X w 86 1 (V f b) (C f b).length (strs (C f b))
  inj : ∀ f ∈ fs, ∀ g ∈ fs, ∀ a b k, (V f a).ownBlock = some k → (V g b).ownBlock = some k → f = g ∧ a = b
def FT (t : Nat) : Prop := t = 79 ∨ t = 86
def Same (T : Nat → Prop) (X : Nat → Prop) (w w' : World) : Prop := ∀ k cs t, T t → X k → w.heap[k]? = some (.cells cs t (0, 0)) → w'.heap[k]? = some (.cells cs t (0, 0))
theorem Same.trans {T X : Nat → Prop} {a b c : World} (h : Same T X a b) (k : Same T X b c) : Same T X a c := fun i cs t ht hx hi => k i cs t ht hx (h i cs t ht hx hi)
theorem Same.refl {T X : Nat → Prop} {a : World} : Same T X a a := fun _ _ _ _ _ h => h
theorem Same.of_fr {T X Y : Nat → Prop} {w w' : World} (hf : Fr Y w w') (h : ∀ k, X k → Y k → ∀ cs t, T t → w.heap[k]? ≠ some (.cells cs t (0, 0))) : Same T X w w' := fun k cs t ht hx hk => hf.heap hk (fun hy => h k hx hy cs t ht hk)
theorem Same.of_below {T X : Nat → Prop} {w w' : World} (hb : Below w.heap.size w w') : Same T X w w' := fun k cs t ht hx hk => (hb.block k (Array.getElem?_eq_some_iff.1 hk).1).trans hk
section
variable {X X' : Nat → Prop} {w w' w1 : World} {fs : List Nat} {V : Nat → Bool → Value} {C : Nat → Bool → List ByteArray}
theorem FilesV.keep (h : FilesV X w fs V C) (hX : ∀ k, X k → X' k) (hs : Same FT X w w') : FilesV X' w' fs V C :=
  ⟨fun f hf => hs f _ _ (.inl rfl) (h.inX f hf) (h.blk f hf), fun f hf => hX f (h.inX f hf), fun f hf b => (h.row f hf b).keep (fun k cs hx _ hk => hs k cs _ (.inr rfl) hx hk) hX, h.inj⟩
theorem FilesV.sub (h : FilesV X w fs V C) {fs' : List Nat} (hs : ∀ f ∈ fs', f ∈ fs) : FilesV X w fs' V C :=
  ⟨fun f hf => h.blk f (hs f hf), fun f hf => h.inX f (hs f hf), fun f hf => h.row f (hs f hf), fun f hf g hg => h.inj f (hs f hf) g (hs g hg)⟩
theorem FilesV.ne (h : FilesV X w fs V C) {f g : Nat} {b : Bool} {k : Nat} (hf : f ∈ fs) (hg : g ∈ fs) (hk : (V g b).ownBlock = some k) : f ≠ k := by
  rintro rfl
  obtain ⟨cur, h1⟩ := (h.row g hg b).block hk
  have h2 := h.blk f hf
  unfold Blk at h2
  rw [h2] at h1
  cases h1
/-- A sector is written. -/
theorem FilesV.set (h : FilesV X w fs V C) {f g m c n : Nat} {b : Bool} (hf : f ∈ fs) (hV : V f b = .slice (some ⟨g, 0, none⟩) m c) (hn : n < (C f b).length) (s : ByteArray) :
    FilesV X (w.setCell ⟨g, n, none⟩ (.string s)) fs V (upd C f b ((C f b).set n s)) := by
  have hk : (V f b).ownBlock = some g := by rw [hV]; rfl
  have hoth : ∀ k, k ≠ g → (w.setCell ⟨g, n, none⟩ (.string s)).heap[k]? = w.heap[k]? := fun k hk => Below.heap_setCell _ _ _ _ hk
  refine ⟨fun f' hf' => (hoth f' (h.ne hf' hf hk)).trans (h.blk f' hf'), h.inX, fun f' hf' b' => ?_, h.inj⟩
  by_cases he : f' = f ∧ b' = b
  · obtain ⟨rfl, rfl⟩ := he
    rw [upd_at]
    have hr := h.row f' hf b'
    refine ⟨⟨by simp [strs], ?_⟩, hr.2⟩
    rcases hr.1.2 with ⟨h1, h2⟩ | ⟨g', cap, cur, h1, h2, h3, h4, h5, h6, h7⟩
    · omega
    · rw [hV] at h1
      simp only [Value.slice.injEq, Option.some.injEq, Addr.mk.injEq] at h1
      obtain ⟨⟨rfl, _⟩, rfl, rfl⟩ := h1
      refine .inr ⟨g, c, cur.setIfInBounds n (.string s), ?_, h2, (show Blk w g 86 cur from h3).set_ n (.string s), ?_, h5, by simpa using h6, ?_⟩
      · rw [hV]; simp
      · simpa using h4
      · rw [Array.toList_setIfInBounds, List.length_set, List.take_set, h7]
        simp [strs]
  · rw [upd_ne _ _ he]
    refine (h.row f' hf' b').keep (fun k cs hx hk' h3 => (hoth k (fun e => ?_)).trans h3) (fun k hx => hx)
    subst e
    obtain ⟨e1, e2⟩ := h.inj f' hf' f hf b' b k hk' hk
    exact he ⟨e1, e2⟩
/-- A file's row is another one. -/
theorem FilesV.turn (h : FilesV X w fs V C) {f : Nat} {b : Bool} {v' : Value} {l' : List ByteArray} (hf : f ∈ fs) (hX : ∀ k, X k → X' k)
    (hs : ∀ k cs t, FT t → X k → some k ≠ (V f b).ownBlock → w.heap[k]? = some (.cells cs t (0, 0)) → w1.heap[k]? = some (.cells cs t (0, 0)))
    (hr : RowX X' w1 86 1 v' l'.length (strs l')) (ho : v'.ownBlock = (V f b).ownBlock ∨ ∀ k, v'.ownBlock = some k → ¬ X k) :
    FilesV X' (w1.setCell ⟨f, if b then 1 else 0, none⟩ v') fs (upd V f b v') (upd C f b l') := by
  have hbk : ∀ g ∈ fs, Blk w1 g 79 #[V g false, V g true] := fun g hg => hs g _ _ (.inl rfl) (h.inX g hg) (fun e => h.ne hg hf e.symm rfl) (h.blk g hg)
  have hoth : ∀ k, k ≠ f → (w1.setCell ⟨f, if b then 1 else 0, none⟩ v').heap[k]? = w1.heap[k]? := fun k hk => Below.heap_setCell _ _ _ _ hk
  have hrow : ∀ g ∈ fs, ∀ a, ¬ (g = f ∧ a = b) → RowX X' w1 86 1 (V g a) (C g a).length (strs (C g a)) := fun g hg a hne =>
    (h.row g hg a).keep (fun k cs hx hk h3 => hs k cs _ (.inr rfl) hx (fun e => hne (h.inj g hg f hf a b k hk e.symm)) h3) hX
  have hfr : ∀ (v : Value) (n : Nat) (xs : List Value), RowX X' w1 86 1 v n xs → RowX X' (w1.setCell ⟨f, if b then 1 else 0, none⟩ v') 86 1 v n xs := fun v n xs hv =>
    hv.keep (fun k cs hx hk h3 => (hoth k (fun e => by subst e; have h2 := hbk k hf; unfold Blk at h2; rw [h2] at h3; cases h3)).trans h3) (fun k hx => hx)
  refine ⟨fun g hg => ?_, fun g hg => hX g (h.inX g hg), fun g hg a => ?_, fun g hg g' hg' a a' k hk hk' => ?_⟩
  · by_cases e : g = f
    · subst e
      have h2 := (hbk g hf).set_ (if b then 1 else 0) v'
      cases b with
      | false => simpa [upd] using h2
      | true => simpa [upd] using h2
    · rw [upd_ne _ _ (fun h => e h.1), upd_ne _ _ (fun h => e h.1)]
      exact (hoth g e).trans (hbk g hg)
  · by_cases e : g = f ∧ a = b
    · obtain ⟨rfl, rfl⟩ := e
      rw [upd_at, upd_at]
      exact hfr _ _ _ hr
    · rw [upd_ne _ _ e, upd_ne _ _ e]
      exact hfr _ _ _ (hrow g hg a e)
  · by_cases e : g = f ∧ a = b
    · by_cases e' : g' = f ∧ a' = b
      · exact ⟨e.1.trans e'.1.symm, e.2.trans e'.2.symm⟩
      · rw [upd_ne _ _ e'] at hk'
        obtain ⟨rfl, rfl⟩ := e
        rw [upd_at] at hk
        rcases ho with ho | ho
        · rw [ho] at hk; exact h.inj g hf g' hg' a a' k hk hk'
        · exact absurd ((h.row g' hg' a').2 k hk') (ho k hk)
    · rw [upd_ne _ _ e] at hk
      by_cases e' : g' = f ∧ a' = b
      · obtain ⟨rfl, rfl⟩ := e'
        rw [upd_at] at hk'
        rcases ho with ho | ho
        · rw [ho] at hk'; exact h.inj g hg g' hf a a' k hk hk'
        · exact absurd ((h.row g hg a).2 k hk) (ho k hk')
      · rw [upd_ne _ _ e'] at hk'
        exact h.inj g hg g' hg' a a' k hk hk'
/-- A file that comes. -/
theorem FilesV.new (h : FilesV X w fs V C) (hX : ∀ k, X k → X' k) (hn : X' w.heap.size) :
    FilesV X' (w.alloc (.cells #[.slice none 0 0, .slice none 0 0] 79)) (w.heap.size :: fs) (fun f b => if f = w.heap.size then .slice none 0 0 else V f b) (fun f b => if f = w.heap.size then [] else C f b) := by
  have hlt : ∀ f ∈ fs, f ≠ w.heap.size := fun f hf => Nat.ne_of_lt (h.blk f hf).lt
  have h1 := h.keep hX (Same.of_below (w' := w.alloc (.cells #[.slice none 0 0, .slice none 0 0] 79)) ((Below.refl _ w).alloc (Nat.le_refl _) _))
  refine ⟨fun f hf => ?_, fun f hf => ?_, fun f hf b => ?_, fun f hf g hg a b k hk hk' => ?_⟩
  · rcases List.mem_cons.1 hf with rfl | hf
    · simp only [if_pos rfl]; exact Blk.new w _ _
    · simp only [if_neg (hlt f hf)]; exact h1.blk f hf
  · rcases List.mem_cons.1 hf with rfl | hf
    · exact hn
    · exact h1.inX f hf
  · rcases List.mem_cons.1 hf with rfl | hf
    · simp only [if_pos rfl]; exact RowX.nil
    · simp only [if_neg (hlt f hf)]; exact h1.row f hf b
  · rcases List.mem_cons.1 hf with rfl | hf
    · simp only [if_pos rfl] at hk; cases hk
    · simp only [if_neg (hlt f hf)] at hk
      rcases List.mem_cons.1 hg with rfl | hg
      · simp only [if_pos rfl] at hk'; cases hk'
      · simp only [if_neg (hlt g hg)] at hk'
        exact h.inj f hf g hg a b k hk hk'
end
end Go.Proofs.YtekajggjoeimoaaDoor
