/- Numbers of so many bytes, in plain words. Numbers and texts as bytes, in plain words. Cells and bodies of cells, in plain words. Bodies of cells, in plain words. CRC-32C by four bits, in plain words. Pages as what they are, in plain words. What is put as a page is got. Pages as a transaction sees them, in plain words. Pages that are given out and taken back, in plain words: what PoolOnce asks. Changes laid over a source, in plain words: what PoolBack asks. Chains of pages, in plain words. What all walks here need: regions, slices of bytes, append. slices.Grow of nil, slices.Concat and slices.Clone at bytes, walked. Numbers of so many bytes, walked. CRC-32C by four bits, walked. -/
import Derived.Lib.Hide
import Derived.Test.YtenfkghoolegfaaGreatDoorWk
import Derived.Test.YtenfkghoolegfaaGreatDoorMem
import Derived.Test.YtenfkghoolegfaaGreatDoorEvx
import Derived.StillTail
import Derived.Deep.RegionHeld3
import Derived.Deep.RegionLaw
import Derived.Lib.AppendZerosOnto
import Derived.Lib.SliceRun
import Derived.LoopTactic
import Derived.WalkKit
import Derived.Outline
import Derived.Laws.BitsAllLaws
import Derived.WalkSpells
import Derived.WalkLawsBesides
set_option linter.unusedVariables false
namespace Go.Proofs.YtenfkghoolegfaaGreatDoor
/-- A number in so many bytes, the highest first. -/
def fixN : Nat → Nat → List UInt8
  | 0, _ => []
  | s + 1, n => fixN s (n / 256) ++ [UInt8.ofNat (n % 256)]
def numN (b : List UInt8) : Nat := b.foldl (fun n c => n * 256 + c.toNat) 0
theorem fixN_len : ∀ (s n : Nat), (fixN s n).length = s
  | 0, _ => rfl
  | s + 1, n => by simp [fixN, fixN_len s]
theorem numN_snoc (b : List UInt8) (c : UInt8) : numN (b ++ [c]) = numN b * 256 + c.toNat := by simp [numN]
theorem u8_of {n : Nat} (h : n < 256) : (UInt8.ofNat n).toNat = n := by rw [UInt8.toNat_ofNat']; omega
theorem u8_id (c : UInt8) : UInt8.ofNat c.toNat = c := by simp
theorem numN_fixN : ∀ (s n : Nat), n < 256 ^ s → numN (fixN s n) = n
  | 0, n, h => by simp at h; subst h; rfl
  | s + 1, n, h => by
    rw [fixN, numN_snoc, numN_fixN s (n / 256) (Nat.div_lt_of_lt_mul (by rw [Nat.pow_succ] at h; omega)), u8_of (by omega)]
    omega
theorem snoc_ind {α : Type} {p : List α → Prop} (h0 : p []) (h1 : ∀ l x, p l → p (l ++ [x])) (l : List α) : p l := by
  have : ∀ m : List α, p m.reverse := fun m => by
    induction m with
    | nil => exact h0
    | cons x m ih => rw [List.reverse_cons]; exact h1 _ _ ih
  have h := this l.reverse
  rwa [List.reverse_reverse] at h
theorem numN_lt (b : List UInt8) : numN b < 256 ^ b.length := by
  induction b using snoc_ind with
  | h0 => decide
  | h1 b c ih =>
    rw [numN_snoc, List.length_append, List.length_singleton, Nat.pow_succ]
    have := c.toNat_lt
    omega
theorem fixN_numN (b : List UInt8) : fixN b.length (numN b) = b := by
  induction b using snoc_ind with
  | h0 => rfl
  | h1 b c ih =>
    rw [List.length_append, List.length_singleton, fixN, numN_snoc]
    have hc := c.toNat_lt
    rw [show (numN b * 256 + c.toNat) / 256 = numN b by omega, show (numN b * 256 + c.toNat) % 256 = c.toNat by omega, ih, u8_id]
theorem fixN_inj {s n m : Nat} (hn : n < 256 ^ s) (hm : m < 256 ^ s) (h : fixN s n = fixN s m) : n = m := by
  rw [← numN_fixN s n hn, ← numN_fixN s m hm, h]
theorem numN_take_succ {b : List UInt8} {k : Nat} (h : k < b.length) : numN (b.take (k + 1)) = numN (b.take k) * 256 + b[k].toNat := by
  rw [List.take_succ_eq_append_getElem h, numN_snoc]
end Go.Proofs.YtenfkghoolegfaaGreatDoor
set_option linter.unusedVariables false
namespace Go.Proofs.YtenfkghoolegfaaGreatDoor
/-- A number's bytes, the lowest first. -/
def putF : Nat → Nat → List UInt8
  | 0, _ => []
  | f + 1, n => if n < 128 then [UInt8.ofNat n] else UInt8.ofNat (n % 128 + 128) :: putF f (n / 128)
def putN (n : Nat) : List UInt8 := putF 10 n
/-- The number with which bytes begin: it, how many bytes, the error. -/
def getF : Nat → Nat → List UInt8 → Nat × Nat × Int
  | 0, _, _ => (0, 0, 11)
  | f + 1, i, [] => (0, 0, 10)
  | f + 1, i, c :: r =>
    if i = 9 ∧ 1 < c.toNat then (0, 0, 11)
    else if c.toNat < 128 then (if 0 < i ∧ c.toNat = 0 then (0, 0, 12) else (c.toNat, 1, 0))
    else if (getF f (i + 1) r).2.2 = 0 then (c.toNat - 128 + 128 * (getF f (i + 1) r).1, (getF f (i + 1) r).2.1 + 1, 0) else (0, 0, (getF f (i + 1) r).2.2)
def getN (b : List UInt8) : Nat × Nat × Int := getF 10 0 b
theorem u8_small {n : Nat} (h : n < 256) : (UInt8.ofNat n).toNat = n := by rw [UInt8.toNat_ofNat']; omega
theorem u8_back (c : UInt8) : UInt8.ofNat c.toNat = c := by simp
theorem pow_step {f : Nat} : 2 ^ (7 * (f + 1) + 1) = 128 * 2 ^ (7 * f + 1) := by
  rw [show 7 * (f + 1) + 1 = 7 + (7 * f + 1) by omega, Nat.pow_add]
/-- What is put is got. -/
theorem get_put : ∀ (f i n : Nat) (r : List UInt8), f + i = 10 → 0 < f → (i = 9 → n < 2) → n < 128 ^ f → n < 2 ^ (64 - 7 * i) → (0 < i → 0 < n) → getF f i (putF f n ++ r) = (n, (putF f n).length, 0)
  | 0, _, _, _, _, h, _, _, _, _ => absurd h (by omega)
  | f + 1, i, n, r, hf, _, h9, hp, h64, hi => by
    unfold putF
    by_cases h : n < 128
    · rw [if_pos h]
      have e : (UInt8.ofNat n).toNat = n := u8_small (by omega)
      show getF (f + 1) i (UInt8.ofNat n :: r) = _
      unfold getF
      rw [e, if_neg (fun hh => by have := h9 hh.1; omega), if_pos h, if_neg (fun hh => by have := hi hh.1; omega)]
      rfl
    · rw [if_neg h]
      have e : (UInt8.ofNat (n % 128 + 128)).toNat = n % 128 + 128 := u8_small (by omega)
      have hi9 : i ≠ 9 := fun hh => by have := h9 hh; omega
      have hf0 : 0 < f := by omega
      have hdiv : n / 128 < 128 ^ f := by rw [Nat.pow_succ] at hp; exact Nat.div_lt_of_lt_mul (by rw [Nat.mul_comm]; exact hp)
      have h64' : n / 128 < 2 ^ (64 - 7 * (i + 1)) := by
        refine Nat.div_lt_of_lt_mul ?_
        rw [show (128 : Nat) = 2 ^ 7 from rfl, ← Nat.pow_add, show 7 + (64 - 7 * (i + 1)) = 64 - 7 * i by omega]
        exact h64
      have ih := get_put f (i + 1) (n / 128) r (by omega) hf0 (fun hh => by
        have h8 : i = 8 := by omega
        subst h8
        have : n < 2 ^ 8 := h64
        omega) hdiv h64' (fun _ => by omega)
      show getF (f + 1) i (UInt8.ofNat (n % 128 + 128) :: (putF f (n / 128) ++ r)) = _
      unfold getF
      rw [e, if_neg (fun hh => hi9 hh.1), if_neg (by omega), ih, if_pos rfl]
      simp only [List.length_cons, Prod.mk.injEq, and_true]
      omega
theorem getN_putN {n : Nat} (h : n < 18446744073709551616) (r : List UInt8) : getN (putN n ++ r) = (n, (putN n).length, 0) :=
  get_put 10 0 n r rfl (by omega) (by omega) (Nat.lt_of_lt_of_le h (by decide)) h (by omega)
/-- What is got was put. -/
theorem put_get : ∀ (f i : Nat) (b : List UInt8), f + i = 10 → (getF f i b).2.2 = 0 → b.take (getF f i b).2.1 = putF f (getF f i b).1 ∧ (getF f i b).2.1 ≤ b.length ∧ 0 < (getF f i b).2.1 ∧ (0 < i → 0 < (getF f i b).1) ∧ (getF f i b).1 < 2 ^ (64 - 7 * i)
  | 0, i, b, _, h => by simp [getF] at h
  | f + 1, i, [], _, h => by simp [getF] at h
  | f + 1, i, c :: r, hf, h => by
    have hc : c.toNat < 256 := c.toNat_lt
    unfold getF at h ⊢
    by_cases h9 : i = 9 ∧ 1 < c.toNat
    · rw [if_pos h9] at h; simp at h
    · rw [if_neg h9] at h ⊢
      by_cases hs : c.toNat < 128
      · rw [if_pos hs] at h ⊢
        by_cases h0 : 0 < i ∧ c.toNat = 0
        · rw [if_pos h0] at h; simp at h
        · rw [if_neg h0]
          refine ⟨?_, by simp, by simp, fun hi => ?_, ?_⟩
          · show [c] = putF (f + 1) c.toNat
            unfold putF
            rw [if_pos hs, u8_back]
          · show 0 < c.toNat
            have : ¬ c.toNat = 0 := fun hh => h0 ⟨hi, hh⟩
            omega
          · show c.toNat < 2 ^ (64 - 7 * i)
            by_cases e9 : i = 9
            · subst e9
              have : ¬ 1 < c.toNat := fun hh => h9 ⟨rfl, hh⟩
              show c.toNat < 2 ^ 1
              omega
            · have hi8 : i ≤ 8 := by omega
              exact Nat.lt_of_lt_of_le (show c.toNat < 2 ^ 8 by omega) (Nat.pow_le_pow_right (by omega) (by omega))
      · rw [if_neg hs] at h ⊢
        by_cases he : (getF f (i + 1) r).2.2 = 0
        · rw [if_pos he]
          obtain ⟨h1, h2, h3, h4, h5⟩ := put_get f (i + 1) r (by omega) he
          have hn := h4 (by omega)
          refine ⟨?_, by simpa using h2, Nat.succ_pos _, fun _ => by show 0 < c.toNat - 128 + 128 * (getF f (i + 1) r).1; omega, ?_⟩
          · show (c :: r).take ((getF f (i + 1) r).2.1 + 1) = _
            rw [List.take_succ_cons, h1]
            show _ = putF (f + 1) (c.toNat - 128 + 128 * (getF f (i + 1) r).1)
            rw [putF, if_neg (by omega), show (c.toNat - 128 + 128 * (getF f (i + 1) r).1) % 128 + 128 = c.toNat by omega, show (c.toNat - 128 + 128 * (getF f (i + 1) r).1) / 128 = (getF f (i + 1) r).1 by omega, u8_back]
          · show c.toNat - 128 + 128 * (getF f (i + 1) r).1 < 2 ^ (64 - 7 * i)
            have hi8 : i ≤ 8 := by
              have : i ≤ 9 := by omega
              rcases Nat.lt_or_ge i 9 with h | h
              · omega
              · exfalso
                have : i = 9 := by omega
                exact h9 ⟨this, by omega⟩
            rw [show 64 - 7 * i = 7 + (64 - 7 * (i + 1)) by omega, Nat.pow_add]
            have : (2 : Nat) ^ 7 = 128 := rfl
            rw [this]
            have h6 : (getF f (i + 1) r).1 + 1 ≤ 2 ^ (64 - 7 * (i + 1)) := h5
            have := Nat.mul_le_mul_left 128 h6
            omega
        · rw [if_neg he] at h; exact absurd h he
theorem putN_getN {b : List UInt8} (h : (getN b).2.2 = 0) : b.take (getN b).2.1 = putN (getN b).1 ∧ (getN b).2.1 ≤ b.length ∧ 0 < (getN b).2.1 ∧ (getN b).1 < 18446744073709551616 := by
  obtain ⟨h1, h2, h3, _, h5⟩ := put_get 10 0 b rfl h
  exact ⟨h1, h2, h3, h5⟩
theorem getF_err : ∀ (f i : Nat) (b : List UInt8), (getF f i b).2.2 ≠ 0 → (getF f i b).1 = 0 ∧ (getF f i b).2.1 = 0
  | 0, i, b, _ => ⟨rfl, rfl⟩
  | f + 1, i, [], _ => ⟨rfl, rfl⟩
  | f + 1, i, c :: r, h => by
    unfold getF at h ⊢
    by_cases h9 : i = 9 ∧ 1 < c.toNat
    · rw [if_pos h9]; exact ⟨rfl, rfl⟩
    · rw [if_neg h9] at h ⊢
      by_cases hs : c.toNat < 128
      · rw [if_pos hs] at h ⊢
        by_cases h0 : 0 < i ∧ c.toNat = 0
        · rw [if_pos h0]; exact ⟨rfl, rfl⟩
        · rw [if_neg h0] at h; exact absurd rfl h
      · rw [if_neg hs] at h ⊢
        by_cases he : (getF f (i + 1) r).2.2 = 0
        · rw [if_pos he] at h; exact absurd rfl h
        · rw [if_neg he]; exact ⟨rfl, rfl⟩
theorem putF_len : ∀ (f n : Nat), (putF f n).length ≤ f
  | 0, _ => Nat.le_refl _
  | f + 1, n => by
    unfold putF
    split
    · simp
    · simp only [List.length_cons]
      have := putF_len f (n / 128)
      omega
theorem putN_len (n : Nat) : (putN n).length ≤ 10 := putF_len 10 n
/-- A text with its length; the text with which bytes begin. -/
def putB (s : List UInt8) : List UInt8 := putN s.length ++ s
def getB (b : List UInt8) : List UInt8 × Nat × Int :=
  if (getN b).2.2 ≠ 0 then ([], 0, (getN b).2.2)
  else if b.length - (getN b).2.1 < (getN b).1 then ([], 0, 10)
  else ((b.drop (getN b).2.1).take (getN b).1, (getN b).2.1 + (getN b).1, 0)
theorem getB_putB {s : List UInt8} (h : s.length < 18446744073709551616) (r : List UInt8) : getB (putB s ++ r) = (s, (putB s).length, 0) := by
  unfold getB putB
  rw [List.append_assoc, getN_putN h]
  simp
theorem putB_getB {b : List UInt8} (h : (getB b).2.2 = 0) : b.take (getB b).2.1 = putB (getB b).1 ∧ (getB b).2.1 ≤ b.length ∧ 0 < (getB b).2.1 := by
  unfold getB at h ⊢
  split at h
  · rename_i hh; exact absurd h hh
  · rename_i hh
    have hh' : (getN b).2.2 = 0 := by simpa using hh
    rw [if_neg hh]
    split at h
    · simp at h
    · rename_i hl
      rw [if_neg hl]
      obtain ⟨h1, h2, h3, h4⟩ := putN_getN hh'
      refine ⟨?_, by show (getN b).2.1 + (getN b).1 ≤ _; omega, by show 0 < (getN b).2.1 + (getN b).1; omega⟩
      show b.take ((getN b).2.1 + (getN b).1) = putB ((b.drop (getN b).2.1).take (getN b).1)
      unfold putB
      rw [List.take_add, h1, List.length_take, List.length_drop, Nat.min_eq_left (by omega)]
end Go.Proofs.YtenfkghoolegfaaGreatDoor
set_option linter.unusedVariables false
namespace Go.Proofs.YtenfkghoolegfaaGreatDoor
/-- A cell. -/
structure PC where
  key : List UInt8
  size : Int
  val : List UInt8
  over : Nat
  kid : Nat
def leafOK (c : PC) : Bool := decide (1 ≤ c.key.length ∧ c.key.length ≤ 24 ∧ 0 ≤ c.size ∧ c.size ≤ 1000 ∧ c.kid = 0 ∧ (c.size ≤ 40 → (c.val.length : Int) = c.size ∧ c.over = 0) ∧ (40 < c.size → c.val.length = 0 ∧ 0 < c.over))
def leafB (c : PC) : List UInt8 := UInt8.ofNat c.key.length :: (c.key ++ (putN c.size.toNat ++ (if c.size ≤ 40 then c.val else fixN 4 c.over)))
def innerOK (c : PC) : Bool := decide (c.key.length ≤ 24 ∧ 0 < c.kid ∧ c.size = 0 ∧ c.over = 0 ∧ c.val.length = 0)
def innerB (c : PC) : List UInt8 := fixN 4 c.kid ++ (UInt8.ofNat c.key.length :: c.key)
/-- Cells whose numbers are numbers of 32 bits. -/
def PC.fit (c : PC) : Prop := c.over < 4294967296 ∧ c.kid < 4294967296
/-- The leaf's cell of bytes, before it is held against them. -/
def leafR (b : List UInt8) : Option PC :=
  match b with
  | [] => none
  | n :: r =>
    if (getN (r.drop n.toNat)).2.2 ≠ 0 ∨ 1000 < (getN (r.drop n.toNat)).1 then none
    else some (if (getN (r.drop n.toNat)).1 ≤ 40
      then ⟨r.take n.toNat, ((getN (r.drop n.toNat)).1 : Nat), (r.drop n.toNat).drop (getN (r.drop n.toNat)).2.1, 0, 0⟩
      else ⟨r.take n.toNat, ((getN (r.drop n.toNat)).1 : Nat), [], (if ((r.drop n.toNat).drop (getN (r.drop n.toNat)).2.1).length ≤ 8 then numN ((r.drop n.toNat).drop (getN (r.drop n.toNat)).2.1) % 4294967296 else 0), 0⟩)
def leafG (b : List UInt8) : Option PC := match leafR b with
  | none => none
  | some c => if leafOK c = true ∧ leafB c = b then some c else none
def innerR (b : List UInt8) : PC := ⟨match b.drop 4 with
  | [] => []
  | n :: r => r.take n.toNat, 0, [], 0, numN (b.take 4)⟩
def innerG (b : List UInt8) : Option PC := if innerOK (innerR b) = true ∧ innerB (innerR b) = b then some (innerR b) else none

theorem leafB_len {c : PC} (h : leafOK c = true) : 3 ≤ (leafB c).length ∧ (leafB c).length ≤ 67 := by
  unfold leafOK at h
  rw [decide_eq_true_eq] at h
  obtain ⟨h1, h2, h3, h4, h5, h6, h7⟩ := h
  have hp : 1 ≤ (putN c.size.toNat).length ∧ (putN c.size.toNat).length ≤ 2 := by
    unfold putN
    rw [putF]
    split
    · simp
    · rw [putF, if_pos (by omega)]; simp
  unfold leafB
  rw [List.length_cons, List.length_append, List.length_append]
  by_cases h8 : c.size ≤ 40
  · rw [if_pos h8]
    have := (h6 h8).1
    omega
  · rw [if_neg h8, fixN_len]
    omega
theorem innerB_len {c : PC} (h : innerOK c = true) : 5 ≤ (innerB c).length ∧ (innerB c).length ≤ 29 := by
  unfold innerOK at h
  rw [decide_eq_true_eq] at h
  obtain ⟨h1, _⟩ := h
  unfold innerB
  rw [List.length_append, fixN_len, List.length_cons]
  omega
/-- A leaf's cell is got as it was put. -/
theorem leafG_B {c : PC} (h : leafOK c = true) (hf : c.fit) : leafG (leafB c) = some c := by
  have h0 := h
  unfold leafOK at h
  rw [decide_eq_true_eq] at h
  obtain ⟨h1, h2, h3, h4, h5, h6, h7⟩ := h
  have hk : (UInt8.ofNat c.key.length).toNat = c.key.length := u8_of (by omega)
  have key : leafR (leafB c) = some c := by
    have hd : (c.key ++ (putN c.size.toNat ++ (if c.size ≤ 40 then c.val else fixN 4 c.over))).drop c.key.length = putN c.size.toNat ++ (if c.size ≤ 40 then c.val else fixN 4 c.over) := by simp
    have ht : (c.key ++ (putN c.size.toNat ++ (if c.size ≤ 40 then c.val else fixN 4 c.over))).take c.key.length = c.key := by simp
    have hg : getN (putN c.size.toNat ++ (if c.size ≤ 40 then c.val else fixN 4 c.over)) = (c.size.toNat, (putN c.size.toNat).length, 0) := getN_putN (by omega) _
    unfold leafR leafB
    simp only [hk, hd, ht, hg]
    rw [if_neg (by simp; omega)]
    have hdd : (putN c.size.toNat ++ (if c.size ≤ 40 then c.val else fixN 4 c.over)).drop (putN c.size.toNat).length = (if c.size ≤ 40 then c.val else fixN 4 c.over) := by simp
    rw [hdd]
    congr 1
    obtain ⟨key, size, val, over, kid⟩ := c
    simp only at h1 h2 h3 h4 h5 h6 h7 hf ⊢
    by_cases h8 : size ≤ 40
    · rw [if_pos (by omega), if_pos h8, (h6 h8).2, h5]
      congr 1
      omega
    · have hv := List.eq_nil_of_length_eq_zero (h7 (by omega)).1
      rw [if_neg (by omega), if_neg h8, hv, h5, fixN_len, if_pos (by omega), numN_fixN 4 over (by have := hf.1; simpa using this), Nat.mod_eq_of_lt hf.1]
      congr 1
      omega
  unfold leafG
  rw [key]
  simp [h0]
theorem leafG_iff {b : List UInt8} {c : PC} (h : leafG b = some c) : leafOK c = true ∧ leafB c = b := by
  unfold leafG at h
  split at h
  · cases h
  · split at h
    · rename_i hh; cases h; exact hh
    · cases h
theorem leafG_fit {b : List UInt8} {c : PC} (h : leafG b = some c) : c.fit := by
  unfold leafG at h
  split at h
  · cases h
  · rename_i c' hc
    split at h
    · cases h
      unfold leafR at hc
      split at hc
      · cases hc
      · split at hc
        · cases hc
        · cases hc
          split
          · exact ⟨(by decide : 0 < 4294967296), (by decide : 0 < 4294967296)⟩
          · refine ⟨?_, (by decide : 0 < 4294967296)⟩
            show (if _ then _ else _) < _
            split
            · exact Nat.mod_lt _ (by decide)
            · decide
    · cases h
theorem innerG_B {c : PC} (h : innerOK c = true) (hf : c.fit) : innerG (innerB c) = some c := by
  have h0 := h
  unfold innerOK at h
  rw [decide_eq_true_eq] at h
  obtain ⟨h1, h2, h3, h4, h5⟩ := h
  have key : innerR (innerB c) = c := by
    have hl := fixN_len 4 c.kid
    have hd : (innerB c).drop 4 = UInt8.ofNat c.key.length :: c.key := by unfold innerB; rw [List.drop_append_of_le_length (by omega), List.drop_of_length_le (by omega)]; rfl
    have ht : (innerB c).take 4 = fixN 4 c.kid := by unfold innerB; rw [List.take_append_of_le_length (by omega), List.take_of_length_le (by omega)]
    unfold innerR
    rw [hd, ht, numN_fixN 4 c.kid (by have := hf.2; simpa using this)]
    obtain ⟨key, size, val, over, kid⟩ := c
    simp only at h1 h2 h3 h4 h5 ⊢
    rw [u8_of (by omega), List.take_of_length_le (Nat.le_refl _), h3, h4, List.eq_nil_of_length_eq_zero h5]
  unfold innerG
  rw [key]
  simp [h0]
theorem innerG_iff {b : List UInt8} {c : PC} (h : innerG b = some c) : innerOK c = true ∧ innerB c = b ∧ c.fit := by
  unfold innerG at h
  split at h
  · rename_i hh
    cases h
    refine ⟨hh.1, hh.2, ?_, ?_⟩
    · show (0 : Nat) < _; decide
    · show numN (b.take 4) < _
      have := numN_lt (b.take 4)
      have hl : (b.take 4).length ≤ 4 := by rw [List.length_take]; omega
      exact Nat.lt_of_lt_of_le this (Nat.pow_le_pow_right (by decide) hl)
  · cases h
end Go.Proofs.YtenfkghoolegfaaGreatDoor
set_option linter.unusedVariables false
namespace Go.Proofs.YtenfkghoolegfaaGreatDoor
def sumL (l : List (List UInt8)) : Nat := (l.map List.length).sum
/-- The directory: where each cell lies, and its length. -/
def dirL : Nat → List (List UInt8) → List UInt8
  | _, [] => []
  | top, c :: l => UInt8.ofNat (top - c.length) :: UInt8.ofNat c.length :: dirL (top - c.length) l
/-- The cells, the last one first. -/
def revL (l : List (List UInt8)) : List UInt8 := l.reverse.flatten
/-- A body that cells were put into, one behind the other. -/
def bodyS (l : List (List UInt8)) : List UInt8 :=
  UInt8.ofNat l.length :: UInt8.ofNat (243 - sumL l) :: (dirL 243 l ++ (List.replicate (243 - sumL l - (2 + 2 * l.length)) 0 ++ revL l))
theorem sumL_snoc (l : List (List UInt8)) (c : List UInt8) : sumL (l ++ [c]) = sumL l + c.length := by simp [sumL]
theorem sumL_cons (l : List (List UInt8)) (c : List UInt8) : sumL (c :: l) = c.length + sumL l := by simp [sumL]
theorem dirL_len : ∀ (t : Nat) (l : List (List UInt8)), (dirL t l).length = 2 * l.length
  | _, [] => rfl
  | t, c :: l => by simp [dirL, dirL_len]; omega
theorem revL_len (l : List (List UInt8)) : (revL l).length = sumL l := by
  unfold revL sumL
  rw [List.length_flatten, List.map_reverse, List.sum_reverse]
theorem revL_snoc (l : List (List UInt8)) (c : List UInt8) : revL (l ++ [c]) = c ++ revL l := by simp [revL]
theorem dirL_snoc : ∀ (t : Nat) (l : List (List UInt8)) (c : List UInt8), dirL t (l ++ [c]) = dirL t l ++ [UInt8.ofNat (t - sumL l - c.length), UInt8.ofNat c.length]
  | t, [], c => by simp [dirL, sumL]
  | t, d :: l, c => by
    rw [List.cons_append, dirL, dirL_snoc, dirL, sumL_cons, show t - (d.length + sumL l) - c.length = t - d.length - sumL l - c.length by omega]
    rfl
theorem bodyS_len {l : List (List UInt8)} (h : 2 + 2 * l.length + sumL l ≤ 243) : (bodyS l).length = 243 := by
  unfold bodyS
  rw [List.length_cons, List.length_cons, List.length_append, List.length_append, dirL_len, List.length_replicate, revL_len]
  omega
/-- A cell's place, and its length. -/
def atS (b : List UInt8) (i : Nat) : Nat := (b.getD (2 + 2 * i) 0).toNat
def lnS (b : List UInt8) (i : Nat) : Nat := (b.getD (3 + 2 * i) 0).toNat
def cellS (b : List UInt8) (i : Nat) : List UInt8 := (b.drop (atS b i)).take (lnS b i)
/-- What is taken, one cell more. -/
def takS (t : Nat → Bool) (a n : Nat) : Nat → Bool := fun j => t j || (decide (a ≤ j) && decide (j < a + n))
def freeS (t : Nat → Bool) (a n : Nat) : Bool := (List.range n).all fun k => !t (a + k)
/-- Are the cells from one on all within? -/
def inS (b : List UInt8) : Nat → Nat → (Nat → Bool) → Bool
  | 0, _, _ => true
  | k + 1, i, t => decide ((b.getD 1 0).toNat ≤ atS b i) && decide (atS b i + lnS b i ≤ 243) && decide (lnS b i ≤ 78) && freeS t (atS b i) (lnS b i) && inS b k (i + 1) (takS t (atS b i) (lnS b i))
/-- The cells of a body; none: it is none. -/
def parseS (b : List UInt8) : Option (List (List UInt8)) :=
  if b.length = 243 ∧ 2 + 2 * (b.getD 0 0).toNat ≤ 243 ∧ 2 + 2 * (b.getD 0 0).toNat ≤ (b.getD 1 0).toNat ∧ (b.getD 1 0).toNat ≤ 243 ∧ inS b (b.getD 0 0).toNat 0 (fun _ => false) = true
  then some ((List.range (b.getD 0 0).toNat).map (cellS b)) else none
theorem bodyS_get {l : List (List UInt8)} (h : 2 + 2 * l.length + sumL l ≤ 243) {i : Nat} {c : List UInt8} {p q : List (List UInt8)} (hl : l = p ++ c :: q) (hi : i = p.length) :
    atS (bodyS l) i = 243 - sumL p - c.length ∧ lnS (bodyS l) i = c.length ∧ cellS (bodyS l) i = c := by
  subst hl
  subst hi
  have hs : sumL (p ++ c :: q) = sumL p + (c.length + sumL q) := by simp [sumL]
  rw [hs, List.length_append, List.length_cons] at h
  have hd : dirL 243 (p ++ c :: q) = dirL 243 p ++ (UInt8.ofNat (243 - sumL p - c.length) :: UInt8.ofNat c.length :: dirL (243 - sumL p - c.length) q) := by
    have : ∀ (t : Nat) (p : List (List UInt8)), dirL t (p ++ c :: q) = dirL t p ++ (UInt8.ofNat (t - sumL p - c.length) :: UInt8.ofNat c.length :: dirL (t - sumL p - c.length) q) := by
      intro t p
      induction p generalizing t with
      | nil => simp [dirL, sumL]
      | cons d p ih =>
        rw [List.cons_append, dirL, ih, dirL, sumL_cons, show t - (d.length + sumL p) - c.length = t - d.length - sumL p - c.length by omega]
        rfl
    exact this 243 p
  have h1 : (bodyS (p ++ c :: q)).getD (2 + 2 * p.length) 0 = UInt8.ofNat (243 - sumL p - c.length) := by
    unfold bodyS
    rw [hd, show 2 + 2 * p.length = 2 * p.length + 1 + 1 by omega, List.getD_cons_succ, List.getD_cons_succ, List.getD_eq_getElem?_getD, List.append_assoc, List.getElem?_append_right (by rw [dirL_len]; omega), dirL_len, Nat.sub_self]
    rfl
  have h2 : (bodyS (p ++ c :: q)).getD (3 + 2 * p.length) 0 = UInt8.ofNat c.length := by
    unfold bodyS
    rw [hd, show 3 + 2 * p.length = 2 * p.length + 1 + 1 + 1 by omega, List.getD_cons_succ, List.getD_cons_succ, List.getD_eq_getElem?_getD, List.append_assoc, List.getElem?_append_right (by rw [dirL_len]; omega), dirL_len, show 2 * p.length + 1 - 2 * p.length = 1 by omega]
    rfl
  have ha : atS (bodyS (p ++ c :: q)) p.length = 243 - sumL p - c.length := by unfold atS; rw [h1, u8_of (by omega)]
  have hn : lnS (bodyS (p ++ c :: q)) p.length = c.length := by unfold lnS; rw [h2, u8_of (by omega)]
  refine ⟨ha, hn, ?_⟩
  unfold cellS
  rw [ha, hn]
  have hr : revL (p ++ c :: q) = revL q ++ (c ++ revL p) := by simp [revL, List.reverse_append, List.flatten_append, List.append_assoc]
  have hb : ∃ u, bodyS (p ++ c :: q) = u ++ (c ++ revL p) ∧ u.length = 243 - sumL p - c.length := by
    refine ⟨UInt8.ofNat (p ++ c :: q).length :: UInt8.ofNat (243 - sumL (p ++ c :: q)) :: (dirL 243 (p ++ c :: q) ++ (List.replicate (243 - sumL (p ++ c :: q) - (2 + 2 * (p ++ c :: q).length)) 0 ++ revL q)), ?_, ?_⟩
    · unfold bodyS
      rw [hr]
      simp only [List.append_assoc, List.cons_append]
    · rw [List.length_cons, List.length_cons, List.length_append, List.length_append, dirL_len, List.length_replicate, revL_len, hs, List.length_append, List.length_cons]
      omega
  obtain ⟨u, hu, hul⟩ := hb
  rw [hu, List.drop_append_of_le_length (by omega), List.drop_of_length_le (by omega), List.nil_append, List.take_append_of_le_length (by omega), List.take_of_length_le (by omega)]
/-- A body of cells is one. -/
theorem inS_body {l : List (List UInt8)} (h : 2 + 2 * l.length + sumL l ≤ 243) (h78 : ∀ c ∈ l, c.length ≤ 78) : ∀ (q p : List (List UInt8)) (t : Nat → Bool), l = p ++ q → (∀ j, j < 243 - sumL p → t j = false) → inS (bodyS l) q.length p.length t = true
  | [], _, _, _, _ => rfl
  | c :: q, p, t, hl, ht => by
    obtain ⟨e1, e2, e3⟩ := bodyS_get h hl rfl
    have hs : sumL l = sumL p + (c.length + sumL q) := by rw [hl]; simp [sumL]
    have hlen : l.length = p.length + (q.length + 1) := by rw [hl]; simp
    have htop : ((bodyS l).getD 1 0).toNat = 243 - sumL l := by
      show (UInt8.ofNat (243 - sumL l)).toNat = _
      exact u8_of (by omega)
    have hc := h78 c (by rw [hl]; simp)
    have ih := inS_body h h78 q (p ++ [c]) (takS t (243 - sumL p - c.length) c.length) (by rw [hl]; simp) (fun j hj => by
      rw [sumL_snoc] at hj
      unfold takS
      rw [ht j (by omega), show decide (243 - sumL p - c.length ≤ j) = false from decide_eq_false (by omega)]
      rfl)
    rw [List.length_append, List.length_singleton] at ih
    rw [List.length_cons, inS, e1, e2, htop, ih]
    have hf : freeS t (243 - sumL p - c.length) c.length = true := by
      unfold freeS
      rw [List.all_eq_true]
      intro k hk
      rw [List.mem_range] at hk
      rw [ht _ (by omega)]
      rfl
    rw [hf]
    simp
    omega
theorem parseS_body {l : List (List UInt8)} (h : 2 + 2 * l.length + sumL l ≤ 243) (h78 : ∀ c ∈ l, c.length ≤ 78) : parseS (bodyS l) = some l := by
  have h0 : ((bodyS l).getD 0 0).toNat = l.length := by
    show (UInt8.ofNat l.length).toNat = _
    exact u8_of (by omega)
  have htop : ((bodyS l).getD 1 0).toNat = 243 - sumL l := by
    show (UInt8.ofNat (243 - sumL l)).toNat = _
    exact u8_of (by omega)
  unfold parseS
  rw [h0, htop, if_pos ⟨bodyS_len h, by omega, by omega, by omega, inS_body h h78 l [] _ rfl (fun _ _ => rfl)⟩]
  congr 1
  refine List.ext_getElem (by simp) fun i h1 h2 => ?_
  rw [List.getElem_map, List.getElem_range]
  exact (bodyS_get h (p := l.take i) (q := l.drop (i + 1)) (c := l[i]) (by rw [← List.drop_eq_getElem_cons h2, List.take_append_drop]) (by rw [List.length_take]; omega)).2.2
theorem parseS_len {b : List UInt8} {l : List (List UInt8)} (h : parseS b = some l) : l.length ≤ 120 := by
  unfold parseS at h
  split at h
  · cases h; rw [List.length_map, List.length_range]; omega
  · cases h
end Go.Proofs.YtenfkghoolegfaaGreatDoor
set_option linter.unusedVariables false
namespace Go.Proofs.YtenfkghoolegfaaGreatDoor.Cr
def c4 (tb : Nat → Nat) (c : Nat) : Nat := Nat.xor (Nat.shiftRight c 4) (tb (Nat.land c 15))
def cb (tb : Nat → Nat) (c b : Nat) : Nat := c4 tb (c4 tb (Nat.xor c b))
def cl (tb : Nat → Nat) (c : Nat) (l : List Nat) : Nat := l.foldl (cb tb) c

theorem xor_lt {x y : Nat} (hx : x < 4294967296) (hy : y < 4294967296) : Nat.xor x y < 4294967296 := Nat.xor_lt_two_pow (n := 32) hx hy
theorem and_lt {x : Nat} : Nat.land x 15 < 16 := Nat.lt_of_le_of_lt Nat.and_le_right (by decide)
theorem shr4_lt {x : Nat} (hx : x < 4294967296) : Nat.shiftRight x 4 < 4294967296 := by
  have : Nat.shiftRight x 4 = x / 16 := Nat.shiftRight_eq_div_pow x 4
  omega
theorem c4_lt {tb : Nat → Nat} (htb : ∀ i, tb i < 4294967296) {x : Nat} (hx : x < 4294967296) : c4 tb x < 4294967296 := xor_lt (shr4_lt hx) (htb _)
theorem cb_lt {tb : Nat → Nat} (htb : ∀ i, tb i < 4294967296) {x y : Nat} (hx : x < 4294967296) (hy : y < 256) : cb tb x y < 4294967296 := c4_lt htb (c4_lt htb (xor_lt hx (by omega)))
theorem take_snocN (l : List Nat) (k : Nat) (h : k < l.length) : l.take (k + 1) = l.take k ++ [l[k]?.getD 0] := by
  rw [List.take_succ_eq_append_getElem h]; simp [h]
theorem cl_step (tb : Nat → Nat) (c : Nat) (l : List Nat) (k : Nat) (h : k < l.length) : cl tb c (l.take (k + 1)) = cb tb (cl tb c (l.take k)) (l[k]?.getD 0) := by
  unfold cl
  rw [take_snocN l k h, List.foldl_append]; rfl
theorem cl_lt {tb : Nat → Nat} (htb : ∀ i, tb i < 4294967296) : ∀ (l : List Nat) (c : Nat), c < 4294967296 → (∀ x ∈ l, x < 256) → cl tb c l < 4294967296
  | [], _, hc, _ => hc
  | x :: l, c, hc, h => cl_lt htb l (cb tb c x) (cb_lt htb hc (h x (by simp))) (fun y hy => h y (by simp [hy]))
def tbNum : Nat := 12749536319551302420830055290731983042906869231766370170184255228463894984119587222357463453493748006886229547019502462691509165827871124329361635492757504
def tbOf (i : Nat) : Nat := Nat.land (Nat.shiftRight tbNum (Nat.mul 32 i)) 4294967295
theorem tbOf_lt (i : Nat) : tbOf i < 4294967296 := Nat.lt_of_le_of_lt Nat.and_le_right (by decide)
end Go.Proofs.YtenfkghoolegfaaGreatDoor.Cr
set_option linter.unusedVariables false
namespace Go.Proofs.YtenfkghoolegfaaGreatDoor
def crcN (b : List UInt8) : Nat := 4294967295 - Cr.cl Cr.tbOf 4294967295 (b.map UInt8.toNat)
theorem crcN_lt (b : List UInt8) : crcN b < 4294967296 := by unfold crcN; omega
/-- Bytes with their sum; the bytes whose sum stands behind them. -/
def putC (b : List UInt8) : List UInt8 := b ++ fixN 4 (crcN b)
def checkC (b : List UInt8) : Bool := decide (4 ≤ b.length ∧ crcN (b.take (b.length - 4)) = numN (b.drop (b.length - 4)))
theorem putC_len (b : List UInt8) : (putC b).length = b.length + 4 := by unfold putC; rw [List.length_append, fixN_len]
theorem checkC_putC (b : List UInt8) : checkC (putC b) = true := by
  unfold checkC
  rw [putC_len, show b.length + 4 - 4 = b.length by omega]
  unfold putC
  rw [List.take_append_of_le_length (Nat.le_refl _), List.take_of_length_le (Nat.le_refl _), List.drop_append_of_le_length (Nat.le_refl _), List.drop_of_length_le (Nat.le_refl _), List.nil_append, numN_fixN 4 _ (by have := crcN_lt b; simpa using this)]
  simp
theorem putC_check {b : List UInt8} (h : checkC b = true) : putC (b.take (b.length - 4)) = b := by
  unfold checkC at h
  rw [decide_eq_true_eq] at h
  unfold putC
  rw [h.2]
  have hl : (b.drop (b.length - 4)).length = 4 := by rw [List.length_drop]; omega
  have := fixN_numN (b.drop (b.length - 4))
  rw [hl] at this
  rw [this, List.take_append_drop]
/-- A page's bytes. -/
def sealB (kind : Nat) (lsn : Nat) (body : List UInt8) : List UInt8 := putC (UInt8.ofNat kind :: (fixN 8 lsn ++ body))
/-- The page of bytes: the error; its kind, when it was written, its body. -/
def openE (b : List UInt8) : Int := if b.length ≠ 256 then 50 else if checkC b = false then 51 else if 1 ≤ (b.getD 0 0).toNat ∧ (b.getD 0 0).toNat ≤ 5 then 0 else 50
def kindB (b : List UInt8) : Nat := (b.getD 0 0).toNat
def lsnB (b : List UInt8) : Nat := numN ((b.drop 1).take 8)
def restB (b : List UInt8) : List UInt8 := (b.drop 9).take 243
theorem open_seal {kind lsn : Nat} {body : List UInt8} (hk : 1 ≤ kind ∧ kind ≤ 5) (hl : lsn < 18446744073709551616) (hb : body.length = 243) :
    openE (sealB kind lsn body) = 0 ∧ kindB (sealB kind lsn body) = kind ∧ lsnB (sealB kind lsn body) = lsn ∧ restB (sealB kind lsn body) = body := by
  have hlen : (sealB kind lsn body).length = 256 := by unfold sealB; rw [putC_len, List.length_cons, List.length_append, fixN_len]; omega
  have hk0 : (sealB kind lsn body).getD 0 0 = UInt8.ofNat kind := rfl
  have hd1 : (sealB kind lsn body).drop 1 = fixN 8 lsn ++ (body ++ fixN 4 (crcN (UInt8.ofNat kind :: (fixN 8 lsn ++ body)))) := by
    unfold sealB putC
    rw [List.cons_append, List.drop_succ_cons, List.drop_zero, List.append_assoc]
  have h8 := fixN_len 8 lsn
  refine ⟨?_, ?_, ?_, ?_⟩
  · unfold openE
    rw [hlen, hk0, u8_of (by omega), if_neg (by simp), show checkC (sealB kind lsn body) = true from checkC_putC _, if_neg (by simp), if_pos hk]
  · unfold kindB; rw [hk0, u8_of (by omega)]
  · unfold lsnB
    rw [hd1, List.take_append_of_le_length (by omega), List.take_of_length_le (by omega), numN_fixN 8 lsn (by simpa using hl)]
  · unfold restB
    rw [show (9 : Nat) = 1 + 8 from rfl, ← List.drop_drop, hd1, List.drop_append_of_le_length (by omega), List.drop_of_length_le (by omega), List.nil_append, List.take_append_of_le_length (by omega), List.take_of_length_le (by omega)]
theorem seal_open {b : List UInt8} (h : openE b = 0) : sealB (kindB b) (lsnB b) (restB b) = b ∧ b.length = 256 ∧ 1 ≤ kindB b ∧ kindB b ≤ 5 ∧ (restB b).length = 243 ∧ lsnB b < 18446744073709551616 := by
  unfold openE at h
  split at h
  · cases h
  rename_i h1
  have h1 : b.length = 256 := Decidable.not_not.1 h1
  split at h
  · cases h
  rename_i h2
  have h2 : checkC b = true := by simpa using h2
  split at h
  · rename_i h3
    have hp := putC_check h2
    rw [h1] at hp
    refine ⟨?_, h1, h3.1, h3.2, ?_, ?_⟩
    · unfold sealB kindB lsnB restB
      rw [u8_id]
      have h8 : ((b.drop 1).take 8).length = 8 := by rw [List.length_take, List.length_drop]; omega
      have := fixN_numN ((b.drop 1).take 8)
      rw [h8] at this
      rw [this]
      refine Eq.trans (congrArg putC ?_) hp
      match b, h1 with
      | c :: r, h1 =>
        show c :: ((r.take 8) ++ ((r.drop 8).take 243)) = (c :: r).take 252
        rw [List.take_succ_cons, show (251 : Nat) = 8 + 243 from rfl, List.take_add]
    · unfold restB; rw [List.length_take, List.length_drop]; omega
    · unfold lsnB
      have := numN_lt ((b.drop 1).take 8)
      refine Nat.lt_of_lt_of_le this ?_
      have : ((b.drop 1).take 8).length ≤ 8 := by rw [List.length_take]; omega
      exact Nat.le_trans (Nat.pow_le_pow_right (by decide) this) (by decide)
  · cases h
/-- A node. -/
structure PN where
  kind : Int
  lsn : Nat
  cells : List PC
  next : Nat
  data : List UInt8
  root : Nat
  pages : Nat
  free : Nat
  entries : Nat
def cellB (kind : Int) (c : PC) : List UInt8 := if kind = 3 then leafB c else innerB c
def cellOK (kind : Int) (c : PC) : Bool := if kind = 3 then leafOK c else innerOK c
def cellG (kind : Int) (b : List UInt8) : Option PC := if kind = 3 then leafG b else innerG b
/-- Do keys rise? -/
def riseK : List PC → Bool
  | a :: b :: l => decide (a.key < b.key) && riseK (b :: l)
  | _ => true
def headOK (n : PN) : Bool := decide (2 ≤ n.pages ∧ n.pages ≤ 512 ∧ 1 ≤ n.root ∧ n.root < n.pages ∧ n.free < n.pages)
def plainOK (n : PN) : Bool :=
  decide ((n.kind = 1 ∨ (n.root = 0 ∧ n.pages = 0 ∧ n.free = 0 ∧ n.entries = 0)) ∧ ((n.kind = 3 ∨ n.kind = 2) ∨ n.cells.length = 0) ∧ (n.kind = 4 ∨ n.data.length = 0) ∧ ((n.kind = 4 ∨ n.kind = 5) ∨ n.next = 0))
def nodeOK (n : PN) : Bool := plainOK n && (
  if n.kind = 1 then headOK n
  else if n.kind = 4 then decide (1 ≤ n.data.length ∧ n.data.length ≤ 238)
  else if n.kind = 5 then true
  else if n.kind = 2 then decide (n.cells.length ≠ 0) && (n.cells.all innerOK && riseK n.cells)
  else if n.kind = 3 then n.cells.all leafOK && riseK n.cells
  else false)
def padB (b : List UInt8) : List UInt8 := b ++ List.replicate (243 - b.length) 0
def magicB : List UInt8 := [83, 67, 79, 87, 49]
def bodyN (n : PN) : List UInt8 :=
  if n.kind = 1 then padB (magicB ++ (fixN 4 n.root ++ (fixN 4 n.pages ++ (fixN 4 n.free ++ fixN 8 n.entries))))
  else if n.kind = 4 then padB (fixN 4 n.next ++ (UInt8.ofNat n.data.length :: n.data))
  else if n.kind = 5 then padB (fixN 4 n.next)
  else bodyS (n.cells.map (cellB n.kind))
def usedN (kind : Int) (l : List PC) : Nat := (l.map fun c => 2 + (cellB kind c).length).sum
/-- A node's bytes, or the error. -/
def putE (n : PN) : Int := if nodeOK n = false then 80 else if (n.kind = 2 ∨ n.kind = 3) ∧ 241 < usedN n.kind n.cells then 60 else 0
def putP (n : PN) : List UInt8 := sealB n.kind.toNat n.lsn (bodyN n)
/-- What a body says. -/
def cellsG (kind : Int) : List (List UInt8) → Option (List PC)
  | [] => some []
  | b :: l => match cellG kind b with
    | none => none
    | some c => match cellsG kind l with
      | none => none
      | some r => some (c :: r)
def readPg (kind : Nat) (lsn : Nat) (b : List UInt8) : Option PN :=
  if kind = 1 then
    let n : PN := ⟨1, lsn, [], 0, [], numN ((b.drop 5).take 4), numN ((b.drop 9).take 4), numN ((b.drop 13).take 4), numN ((b.drop 17).take 8)⟩
    if bodyN n = b then some n else none
  else if kind = 4 then
    let n : PN := ⟨4, lsn, [], numN (b.take 4), ((b.drop 5).take (min (5 + (b.getD 4 0).toNat) b.length - 5)), 0, 0, 0, 0⟩
    if bodyN n = b then some n else none
  else if kind = 5 then
    let n : PN := ⟨5, lsn, [], numN (b.take 4), [], 0, 0, 0, 0⟩
    if bodyN n = b then some n else none
  else match parseS b with
    | none => none
    | some l => match cellsG kind l with
      | none => none
      | some c => some ⟨kind, lsn, c, 0, [], 0, 0, 0, 0⟩
/-- The node of bytes: it, or the error. -/
def getP (b : List UInt8) : Except Int PN :=
  if openE b ≠ 0 then .error (openE b) else match readPg (kindB b) (lsnB b) (restB b) with
    | none => .error 80
    | some n => if nodeOK n = true then .ok n else .error 80
end Go.Proofs.YtenfkghoolegfaaGreatDoor
set_option linter.unusedVariables false
namespace Go.Proofs.YtenfkghoolegfaaGreatDoor
structure PN.Fit (n : PN) : Prop where
  lsn : n.lsn < 18446744073709551616
  next : n.next < 4294967296
  root : n.root < 4294967296
  pages : n.pages < 4294967296
  free : n.free < 4294967296
  entries : n.entries < 18446744073709551616
  cells : ∀ c ∈ n.cells, c.fit
theorem usedN_sum (kind : Int) : ∀ l : List PC, usedN kind l = 2 * l.length + sumL (l.map (cellB kind))
  | [] => rfl
  | c :: l => by
    have := usedN_sum kind l
    unfold usedN at this ⊢
    rw [List.map_cons, List.sum_cons, this, List.map_cons, sumL_cons, List.length_cons]
    omega
theorem cellB_78 {kind : Int} {c : PC} (h : cellOK kind c = true) : (cellB kind c).length ≤ 78 ∧ 3 ≤ (cellB kind c).length := by
  unfold cellOK at h
  unfold cellB
  split at h
  · rename_i hk; rw [if_pos hk]; have := leafB_len h; omega
  · rename_i hk; rw [if_neg hk]; have := innerB_len h; omega
theorem cellsG_B {kind : Int} : ∀ l : List PC, (∀ c ∈ l, cellOK kind c = true ∧ c.fit) → cellsG kind (l.map (cellB kind)) = some l
  | [], _ => rfl
  | c :: l, h => by
    have h1 := h c (by simp)
    have hc : cellG kind (cellB kind c) = some c := by
      unfold cellG cellB
      have h0 := h1.1
      unfold cellOK at h0
      split at h0
      · rename_i hk; rw [if_pos hk, if_pos hk]; exact leafG_B h0 h1.2
      · rename_i hk; rw [if_neg hk, if_neg hk]; exact innerG_B h0 h1.2
    rw [List.map_cons, cellsG, hc, cellsG_B l fun x hx => h x (by simp [hx])]
theorem drop_app {α : Type} {a b : List α} {n : Nat} (h : a.length = n) : (a ++ b).drop n = b := by
  rw [List.drop_append_of_le_length (by omega), List.drop_of_length_le (by omega), List.nil_append]
theorem take_app {α : Type} {a b : List α} {n : Nat} (h : a.length = n) : (a ++ b).take n = a := by
  rw [List.take_append_of_le_length (by omega), List.take_of_length_le (by omega)]
theorem padB_len {b : List UInt8} (h : b.length ≤ 243) : (padB b).length = 243 := by
  unfold padB; rw [List.length_append, List.length_replicate]; omega
theorem nodeOK_plain {n : PN} (h : nodeOK n = true) : plainOK n = true := by
  unfold nodeOK at h
  rw [Bool.and_eq_true] at h
  exact h.1
theorem nodeOK_kind {n : PN} (h : nodeOK n = true) : n.kind = 1 ∨ n.kind = 4 ∨ n.kind = 5 ∨ n.kind = 2 ∨ n.kind = 3 := by
  unfold nodeOK at h
  rw [Bool.and_eq_true] at h
  have h := h.2
  by_cases h1 : n.kind = 1
  · exact .inl h1
  by_cases h2 : n.kind = 4
  · exact .inr (.inl h2)
  by_cases h3 : n.kind = 5
  · exact .inr (.inr (.inl h3))
  by_cases h4 : n.kind = 2
  · exact .inr (.inr (.inr (.inl h4)))
  by_cases h5 : n.kind = 3
  · exact .inr (.inr (.inr (.inr h5)))
  · rw [if_neg h1, if_neg h2, if_neg h3, if_neg h4, if_neg h5] at h
    cases h
theorem nodeOK_cells {n : PN} (h : nodeOK n = true) : ∀ c ∈ n.cells, cellOK n.kind c = true := by
  have hp := nodeOK_plain h
  unfold nodeOK at h
  rw [Bool.and_eq_true] at h
  have h := h.2
  unfold plainOK at hp
  rw [decide_eq_true_eq] at hp
  unfold cellOK
  by_cases h3 : n.kind = 3
  · rw [if_neg (by omega), if_neg (by omega), if_neg (by omega), if_neg (by omega), if_pos h3, Bool.and_eq_true, List.all_eq_true] at h
    intro c hc
    rw [if_pos h3]
    exact h.1 c hc
  · by_cases h2 : n.kind = 2
    · rw [if_neg (by omega), if_neg (by omega), if_neg (by omega), if_pos h2, Bool.and_eq_true, Bool.and_eq_true, List.all_eq_true] at h
      intro c hc
      rw [if_neg h3]
      exact h.2.1 c hc
    · have hc := List.eq_nil_of_length_eq_zero (hp.2.1.resolve_left (by omega))
      intro c h'
      rw [hc] at h'
      cases h'
theorem nodeOK_1 {n : PN} (h : nodeOK n = true) (k : n.kind = 1) : headOK n = true ∧ n.cells = [] ∧ n.data = [] ∧ n.next = 0 := by
  have hp := nodeOK_plain h
  unfold nodeOK at h
  unfold plainOK at hp
  rw [decide_eq_true_eq] at hp
  rw [Bool.and_eq_true, if_pos k] at h
  exact ⟨h.2, List.eq_nil_of_length_eq_zero (hp.2.1.resolve_left (by omega)), List.eq_nil_of_length_eq_zero (hp.2.2.1.resolve_left (by omega)), hp.2.2.2.resolve_left (by omega)⟩
theorem nodeOK_4 {n : PN} (h : nodeOK n = true) (k : n.kind = 4) : (1 ≤ n.data.length ∧ n.data.length ≤ 238) ∧ n.cells = [] ∧ n.root = 0 ∧ n.pages = 0 ∧ n.free = 0 ∧ n.entries = 0 := by
  have hp := nodeOK_plain h
  unfold nodeOK at h
  unfold plainOK at hp
  rw [decide_eq_true_eq] at hp
  rw [Bool.and_eq_true, if_neg (by omega), if_pos k, decide_eq_true_eq] at h
  exact ⟨h.2, List.eq_nil_of_length_eq_zero (hp.2.1.resolve_left (by omega)), hp.1.resolve_left (by omega)⟩
theorem nodeOK_5 {n : PN} (h : nodeOK n = true) (k : n.kind = 5) : n.cells = [] ∧ n.data = [] ∧ n.root = 0 ∧ n.pages = 0 ∧ n.free = 0 ∧ n.entries = 0 := by
  have hp := nodeOK_plain h
  unfold plainOK at hp
  rw [decide_eq_true_eq] at hp
  exact ⟨List.eq_nil_of_length_eq_zero (hp.2.1.resolve_left (by omega)), List.eq_nil_of_length_eq_zero (hp.2.2.1.resolve_left (by omega)), hp.1.resolve_left (by omega)⟩
theorem nodeOK_c {n : PN} (h : nodeOK n = true) (k : n.kind = 2 ∨ n.kind = 3) : (n.kind = 2 → n.cells.length ≠ 0) ∧ riseK n.cells = true ∧ n.data = [] ∧ n.next = 0 ∧ n.root = 0 ∧ n.pages = 0 ∧ n.free = 0 ∧ n.entries = 0 := by
  have hp := nodeOK_plain h
  unfold nodeOK at h
  unfold plainOK at hp
  rw [decide_eq_true_eq] at hp
  rw [Bool.and_eq_true, if_neg (by omega), if_neg (by omega), if_neg (by omega)] at h
  refine ⟨?_, ?_, List.eq_nil_of_length_eq_zero (hp.2.2.1.resolve_left (by omega)), hp.2.2.2.resolve_left (by omega), hp.1.resolve_left (by omega)⟩
  · intro k2
    rw [if_pos k2, Bool.and_eq_true, decide_eq_true_eq] at h
    exact h.2.1
  · by_cases k2 : n.kind = 2
    · rw [if_pos k2, Bool.and_eq_true, Bool.and_eq_true] at h
      exact h.2.2.2
    · rw [if_neg k2, if_pos (by omega), Bool.and_eq_true] at h
      exact h.2.2
theorem putE_ok {n : PN} (h : putE n = 0) : nodeOK n = true ∧ (n.kind = 2 ∨ n.kind = 3 → 2 + 2 * n.cells.length + sumL (n.cells.map (cellB n.kind)) ≤ 243) := by
  unfold putE at h
  split at h
  · cases h
  rename_i h1
  split at h
  · cases h
  rename_i h2
  refine ⟨by simpa using h1, fun hc => ?_⟩
  have := usedN_sum n.kind n.cells
  have h3 : ¬ 241 < usedN n.kind n.cells := fun hh => h2 ⟨hc, hh⟩
  omega
theorem body_1 {n : PN} (k : n.kind = 1) : bodyN n = magicB ++ (fixN 4 n.root ++ (fixN 4 n.pages ++ (fixN 4 n.free ++ (fixN 8 n.entries ++ List.replicate 218 0)))) := by
  unfold bodyN padB
  rw [if_pos k]
  simp [fixN_len, magicB]
theorem body_4 {n : PN} (k : n.kind = 4) : bodyN n = fixN 4 n.next ++ (UInt8.ofNat n.data.length :: (n.data ++ List.replicate (238 - n.data.length) 0)) := by
  unfold bodyN padB
  rw [if_neg (by omega), if_pos k, List.append_assoc, List.cons_append, List.length_append, List.length_cons, fixN_len]
  congr 4
  omega
theorem body_5 {n : PN} (k : n.kind = 5) : bodyN n = fixN 4 n.next ++ List.replicate 239 0 := by
  unfold bodyN padB
  rw [if_neg (by omega), if_neg (by omega), if_pos k, fixN_len]
theorem body_c {n : PN} (k : n.kind = 2 ∨ n.kind = 3) : bodyN n = bodyS (n.cells.map (cellB n.kind)) := by
  unfold bodyN
  rw [if_neg (by omega), if_neg (by omega), if_neg (by omega)]
theorem body_len {n : PN} (h : putE n = 0) : (bodyN n).length = 243 := by
  obtain ⟨h1, hs⟩ := putE_ok h
  rcases nodeOK_kind h1 with k | k | k | k
  · rw [body_1 k]; simp only [List.length_append, fixN_len, List.length_replicate]; rfl
  · rw [body_4 k]
    have := (nodeOK_4 h1 k).1
    simp only [List.length_append, List.length_cons, fixN_len, List.length_replicate]; omega
  · rw [body_5 k]; simp only [List.length_append, fixN_len, List.length_replicate]
  · rw [body_c k]
    exact bodyS_len (by rw [List.length_map]; exact hs k)
theorem mk_eq (n : PN) {kind : Int} {lsn : Nat} {cells : List PC} {next : Nat} {data : List UInt8} {root pages free entries : Nat} (h1 : n.kind = kind) (h2 : n.lsn = lsn) (h3 : n.cells = cells) (h4 : n.next = next) (h5 : n.data = data)
    (h6 : n.root = root) (h7 : n.pages = pages) (h8 : n.free = free) (h9 : n.entries = entries) : (⟨kind, lsn, cells, next, data, root, pages, free, entries⟩ : PN) = n := by
  subst h1; subst h2; subst h3; subst h4; subst h5; subst h6; subst h7; subst h8; subst h9; rfl
theorem readPg_put {n : PN} (h : putE n = 0) (hf : n.Fit) : readPg n.kind.toNat n.lsn (bodyN n) = some n := by
  obtain ⟨h1, hs⟩ := putE_ok h
  have f4 : ∀ m, (fixN 4 m).length = 4 := fixN_len 4
  have f8 : ∀ m, (fixN 8 m).length = 8 := fixN_len 8
  have g4 : ∀ m, m < 4294967296 → numN (fixN 4 m) = m := fun m hm => numN_fixN 4 m (by simpa using hm)
  have g8 : ∀ m, m < 18446744073709551616 → numN (fixN 8 m) = m := fun m hm => numN_fixN 8 m (by simpa using hm)
  rcases nodeOK_kind h1 with k | k | k | k
  · obtain ⟨_, hc, hd, hn⟩ := nodeOK_1 h1 k
    have hb := body_1 k
    have e5 : (bodyN n).drop 5 = fixN 4 n.root ++ (fixN 4 n.pages ++ (fixN 4 n.free ++ (fixN 8 n.entries ++ List.replicate 218 0))) := by rw [hb]; exact drop_app rfl
    have e9 : (bodyN n).drop 9 = fixN 4 n.pages ++ (fixN 4 n.free ++ (fixN 8 n.entries ++ List.replicate 218 0)) := by rw [show (9 : Nat) = 5 + 4 from rfl, ← List.drop_drop, e5]; exact drop_app (f4 _)
    have e13 : (bodyN n).drop 13 = fixN 4 n.free ++ (fixN 8 n.entries ++ List.replicate 218 0) := by rw [show (13 : Nat) = 9 + 4 from rfl, ← List.drop_drop, e9]; exact drop_app (f4 _)
    have e17 : (bodyN n).drop 17 = fixN 8 n.entries ++ List.replicate 218 0 := by rw [show (17 : Nat) = 13 + 4 from rfl, ← List.drop_drop, e13]; exact drop_app (f4 _)
    unfold readPg
    rw [if_pos (by omega), e5, e9, e13, e17, take_app (f4 _), take_app (f4 _), take_app (f4 _), take_app (f8 _), g4 _ hf.root, g4 _ hf.pages, g4 _ hf.free, g8 _ hf.entries]
    simp only [mk_eq n k rfl hc hn hd rfl rfl rfl rfl]
    rw [if_pos trivial]
  · obtain ⟨hl, hc, h6, h7, h8, h9⟩ := nodeOK_4 h1 k
    have hb := body_4 k
    have e4 : (bodyN n).getD 4 0 = UInt8.ofNat n.data.length := by
      rw [hb, List.getD_eq_getElem?_getD, List.getElem?_append_right (by rw [f4]; omega), f4]; rfl
    have e5 : (bodyN n).drop 5 = n.data ++ List.replicate (238 - n.data.length) 0 := by
      rw [hb, show (5 : Nat) = 4 + 1 from rfl, ← List.drop_drop, drop_app (f4 _), List.drop_succ_cons, List.drop_zero]
    have hbl := body_len h
    unfold readPg
    rw [if_neg (by omega), if_pos (by omega), e4, e5, u8_of (by omega), hbl, show min (5 + n.data.length) 243 - 5 = n.data.length by omega, take_app rfl]
    rw [show (bodyN n).take 4 = fixN 4 n.next by rw [hb]; exact take_app (f4 _), g4 _ hf.next]
    simp only [mk_eq n k rfl hc rfl rfl h6 h7 h8 h9]
    rw [if_pos trivial]
  · obtain ⟨hc, hd, h6, h7, h8, h9⟩ := nodeOK_5 h1 k
    have hb := body_5 k
    unfold readPg
    rw [if_neg (by omega), if_neg (by omega), if_pos (by omega)]
    rw [show (bodyN n).take 4 = fixN 4 n.next by rw [hb]; exact take_app (f4 _), g4 _ hf.next]
    simp only [mk_eq n k rfl hc rfl hd h6 h7 h8 h9]
    rw [if_pos trivial]
  · obtain ⟨_, _, hd, hn, h6, h7, h8, h9⟩ := nodeOK_c h1 k
    have hcs := nodeOK_cells h1
    unfold readPg
    rw [if_neg (by omega), if_neg (by omega), if_neg (by omega), body_c k, parseS_body (by rw [List.length_map]; exact hs k) (fun c hc => by
      obtain ⟨x, hx, rfl⟩ := List.mem_map.1 hc
      exact (cellB_78 (hcs x hx)).1)]
    have e : ((n.kind.toNat : Nat) : Int) = n.kind := by omega
    simp only [e]
    rw [cellsG_B n.cells fun c hc => ⟨hcs c hc, hf.cells c hc⟩]
    simp only [mk_eq n rfl rfl rfl hn hd h6 h7 h8 h9]
/-- What was put is got. -/
theorem get_putND {n : PN} (h : putE n = 0) (hf : n.Fit) : getP (putP n) = .ok n ∧ (putP n).length = 256 := by
  obtain ⟨h1, hs⟩ := putE_ok h
  have hk := nodeOK_kind h1
  have hbl := body_len h
  obtain ⟨e1, e2, e3, e4⟩ := open_seal (kind := n.kind.toNat) (by omega) hf.lsn hbl
  refine ⟨?_, ?_⟩
  · unfold getP putP
    rw [e1, e2, e3, e4, readPg_put h hf]
    simp [h1]
  · unfold putP sealB
    rw [putC_len, List.length_cons, List.length_append, fixN_len]
    omega
end Go.Proofs.YtenfkghoolegfaaGreatDoor
set_option linter.unusedVariables false
namespace Go.Proofs.YtenfkghoolegfaaGreatDoor
abbrev Over := List (Nat × List UInt8)
def lookO (n : Nat) : Over → Option (List UInt8)
  | [] => none
  | (k, b) :: l => if k = n then some b else lookO n l
def setO (n : Nat) (b : List UInt8) : Over → Over
  | [] => [(n, b)]
  | (k, c) :: l => if k = n then (k, b) :: l else (k, c) :: setO n b l
theorem lookO_setO (n m : Nat) (b : List UInt8) : ∀ l : Over, lookO m (setO n b l) = if n = m then some b else lookO m l
  | [] => by simp [setO, lookO]
  | (k, c) :: l => by
    unfold setO
    by_cases h : k = n
    · rw [if_pos h]
      subst h
      unfold lookO
      by_cases h2 : k = m
      · rw [if_pos h2, if_pos h2]
      · rw [if_neg h2, if_neg h2, if_neg h2]
    · rw [if_neg h]
      unfold lookO
      by_cases h2 : k = m
      · rw [if_pos h2, if_pos h2, if_neg (by omega)]
      · rw [if_neg h2, if_neg h2]
        exact lookO_setO n m b l
/-- A transaction. -/
structure PT where
  src : List (List UInt8)
  lsn : Nat
  root : Nat
  pages : Nat
  free : Nat
  entries : Nat
  over : Over
  changed : Bool
def PT.head (t : PT) : PN := ⟨1, t.lsn, [], 0, [], t.root, t.pages, t.free, t.entries⟩
def pageT (t : PT) (n : Nat) : Except Int (List UInt8) :=
  if t.pages ≤ n then .error 7 else match lookO n t.over with
    | some b => .ok b
    | none => if n = 0 ∧ t.changed = true then .ok (putP t.head) else match t.src[n]? with
      | some b => .ok b
      | none => .error 7
def nodeT (t : PT) (n : Nat) : Except Int PN := match pageT t n with
  | .error e => .error e
  | .ok b => getP b
def layE (t : PT) (x : PN) : Int := putE { x with lsn := t.lsn }
def layT (t : PT) (n : Nat) (x : PN) : PT := if layE t x = 0 then { t with over := setO n (putP { x with lsn := t.lsn }) t.over, changed := true } else t
def isPageT (t : PT) (n : Nat) : Int := if n = 0 ∨ t.pages ≤ n then 2 else 0
def putE' (t : PT) (n : Nat) (x : PN) : Int := if isPageT t n ≠ 0 then 2 else layE t x
def putT (t : PT) (n : Nat) (x : PN) : PT := if isPageT t n ≠ 0 then t else layT t n x
/-- What is given out: the error, the page, what is left. -/
def allocT (t : PT) : Int × Nat × PT :=
  if t.free ≠ 0 then match nodeT t t.free with
    | .error e => (e, 0, t)
    | .ok x => if x.kind ≠ 5 ∨ t.pages ≤ x.next then (80, 0, t) else (0, t.free, { t with free := x.next, changed := true })
  else if 512 ≤ t.pages then (90, 0, t)
  else (0, t.pages, { t with pages := t.pages + 1, changed := true })
def freeN (t : PT) : PN := ⟨5, 0, [], t.free, [], 0, 0, 0, 0⟩
def freeT (t : PT) (n : Nat) : Int × PT :=
  if isPageT t n ≠ 0 then (2, t)
  else if layE t (freeN t) ≠ 0 then (layE t (freeN t), t)
  else (0, { layT t n (freeN t) with free := n })
def rootT (t : PT) (n : Nat) : Int × PT := if isPageT t n ≠ 0 then (2, t) else (0, { t with root := n, changed := true })
def countT (t : PT) (by' : Int) : Int × PT :=
  if by' < -2147483648 ∨ 2147483648 < by' ∨ (by' < 0 ∧ (t.entries : Int) < -by') ∨ (0 < by' ∧ 18446744073709551615 - by' < (t.entries : Int)) then (2, t)
  else (0, { t with entries := ((t.entries : Int) + by').toNat, changed := true })
def freshN (lsn : Nat) : PN := ⟨3, lsn, [], 0, [], 0, 0, 0, 0⟩
def freshT (lsn : Nat) : PT := ⟨[], lsn, 1, 2, 0, 0, [(1, putP (freshN lsn))], true⟩
def beginT (src : List (List UInt8)) (lsn : Nat) : Except Int PT := match src[0]? with
  | none => .error 7
  | some b => match getP b with
    | .error e => .error e
    | .ok n => if n.kind = 1 then .ok ⟨src, lsn, n.root, n.pages, n.free, n.entries, [], false⟩ else .error 80
/-- Pages by rising numbers. -/
def insO (x : Nat × List UInt8) : Over → Over
  | [] => [x]
  | y :: l => if x.1 ≤ y.1 then x :: y :: l else y :: insO x l
def sortO (l : Over) : Over := l.foldr insO []
def changesT (t : PT) : Over := if t.changed = true then (0, match pageT t 0 with
  | .ok b => b
  | .error _ => []) :: sortO t.over else []
structure PT.OK (t : PT) : Prop where
  lsn : t.lsn < 18446744073709551616
  head : 2 ≤ t.pages ∧ t.pages ≤ 512 ∧ 1 ≤ t.root ∧ t.root < t.pages ∧ t.free < t.pages
  entries : t.entries < 18446744073709551616
  keys : ∀ x ∈ t.over, 0 < x.1 ∧ x.1 < t.pages
  nodup : (t.over.map (·.1)).Nodup
theorem PT.OK.putE {t : PT} (h : t.OK) : putE t.head = 0 := by
  have hp : plainOK t.head = true := by
    unfold plainOK PT.head
    simp
  have hh : headOK t.head = true := by
    unfold headOK PT.head
    rw [decide_eq_true_eq]
    exact h.head
  have hn : nodeOK t.head = true := by
    unfold nodeOK
    rw [hp, show t.head.kind = 1 from rfl, if_pos rfl, hh]
    rfl
  unfold Go.Proofs.YtenfkghoolegfaaGreatDoor.putE
  rw [hn, if_neg (by simp), if_neg (by rw [show t.head.kind = 1 from rfl]; omega)]
theorem PT.OK.fit {t : PT} (h : t.OK) : t.head.Fit := by
  have := h.head
  refine ⟨h.lsn, by show 0 < _; decide, ?_, ?_, ?_, h.entries, fun c hc => by cases hc⟩
  · show t.root < _; omega
  · show t.pages < _; omega
  · show t.free < _; omega
theorem setO_keys {n : Nat} {b : List UInt8} : ∀ {l : Over} {x : Nat × List UInt8}, x ∈ setO n b l → x = (n, b) ∨ x ∈ l
  | [], x, h => by
    unfold setO at h
    simp only [List.mem_singleton] at h
    exact .inl h
  | (k, c) :: l, x, h => by
    unfold setO at h
    split at h
    · rename_i hk
      subst hk
      rcases List.mem_cons.1 h with rfl | h
      · exact .inl rfl
      · exact .inr (List.mem_cons_of_mem _ h)
    · rcases List.mem_cons.1 h with rfl | h
      · exact .inr (List.mem_cons_self ..)
      · exact (setO_keys h).imp id (List.mem_cons_of_mem _)
theorem setO_map {n : Nat} {b : List UInt8} : ∀ {l : Over}, (setO n b l).map (·.1) = if n ∈ l.map (·.1) then l.map (·.1) else l.map (·.1) ++ [n]
  | [] => by simp [setO]
  | (k, c) :: l => by
    unfold setO
    by_cases h : k = n
    · rw [if_pos h]; subst h; simp
    · rw [if_neg h, List.map_cons, setO_map]
      by_cases h2 : n ∈ l.map (·.1)
      · rw [if_pos h2, if_pos (by simp at h2 ⊢; exact .inr h2)]; rfl
      · rw [if_neg h2, if_neg (by simp at h2 ⊢; exact ⟨fun e => h e.symm, h2⟩)]; rfl
theorem setO_nodup {n : Nat} {b : List UInt8} {l : Over} (h : (l.map (·.1)).Nodup) : ((setO n b l).map (·.1)).Nodup := by
  rw [setO_map]
  split
  · exact h
  · rename_i hn
    rw [List.nodup_append]
    refine ⟨h, by simp, fun a ha c hc e => ?_⟩
    simp only [List.mem_singleton] at hc
    subst hc
    subst e
    exact hn ha
theorem layT_ok {t : PT} (h : t.OK) {n : Nat} (hn : 0 < n ∧ n < t.pages) (x : PN) : (layT t n x).OK := by
  unfold layT
  split
  · refine ⟨h.lsn, h.head, h.entries, fun y hy => ?_, setO_nodup h.nodup⟩
    rcases setO_keys hy with rfl | hy
    · exact hn
    · exact h.keys y hy
  · exact h
theorem isPageT_0 {t : PT} {n : Nat} (h : isPageT t n = 0) : 0 < n ∧ n < t.pages := by
  unfold isPageT at h
  split at h
  · cases h
  · omega
theorem putT_ok {t : PT} (h : t.OK) (n : Nat) (x : PN) : (putT t n x).OK := by
  unfold putT
  split
  · exact h
  · rename_i hh
    exact layT_ok h (isPageT_0 (Decidable.not_not.1 hh)) x
theorem allocT_ok {t : PT} (h : t.OK) : (allocT t).2.2.OK := by
  have h0 := h.head
  unfold allocT
  split
  · split
    · exact h
    · split
      · exact h
      · rename_i x _ hx
        exact ⟨h.lsn, ⟨h0.1, h0.2.1, h0.2.2.1, h0.2.2.2.1, by show x.next < t.pages; omega⟩, h.entries, h.keys, h.nodup⟩
  · split
    · exact h
    · exact ⟨h.lsn, ⟨by show 2 ≤ t.pages + 1; omega, by show t.pages + 1 ≤ 512; omega, h0.2.2.1, by show t.root < t.pages + 1; omega, by show t.free < t.pages + 1; omega⟩, h.entries, fun y hy => by have := h.keys y hy; exact ⟨this.1, by show y.1 < t.pages + 1; omega⟩, h.nodup⟩
theorem layT_pages (t : PT) (n : Nat) (x : PN) : (layT t n x).pages = t.pages ∧ (layT t n x).root = t.root ∧ (layT t n x).free = t.free ∧ (layT t n x).entries = t.entries ∧ (layT t n x).lsn = t.lsn ∧ (layT t n x).src = t.src := by
  unfold layT
  split <;> exact ⟨rfl, rfl, rfl, rfl, rfl, rfl⟩
theorem freeT_ok {t : PT} (h : t.OK) (n : Nat) : (freeT t n).2.OK := by
  unfold freeT
  split
  · exact h
  · rename_i hh
    have hp := isPageT_0 (Decidable.not_not.1 hh)
    split
    · exact h
    · have hl := layT_ok h hp (freeN t)
      obtain ⟨e1, e2, _⟩ := layT_pages t n (freeN t)
      refine ⟨hl.lsn, ?_, hl.entries, hl.keys, hl.nodup⟩
      have := hl.head
      exact ⟨this.1, this.2.1, this.2.2.1, this.2.2.2.1, by show n < (layT t n (freeN t)).pages; omega⟩
theorem rootT_ok {t : PT} (h : t.OK) (n : Nat) : (rootT t n).2.OK := by
  unfold rootT
  split
  · exact h
  · rename_i hh
    have hp := isPageT_0 (Decidable.not_not.1 hh)
    exact ⟨h.lsn, ⟨h.head.1, h.head.2.1, hp.1, hp.2, h.head.2.2.2.2⟩, h.entries, h.keys, h.nodup⟩
theorem countT_ok {t : PT} (h : t.OK) (k : Int) : (countT t k).2.OK := by
  unfold countT
  have := h.entries
  split
  · exact h
  · exact ⟨h.lsn, h.head, by show ((t.entries : Int) + k).toNat < _; omega, h.keys, h.nodup⟩
theorem freshT_ok {lsn : Nat} (h : lsn < 18446744073709551616) : (freshT lsn).OK :=
  ⟨h, (by decide : 2 ≤ 2 ∧ 2 ≤ 512 ∧ 1 ≤ 1 ∧ 1 < 2 ∧ 0 < 2), (by decide : 0 < 18446744073709551616), fun x hx => by
    simp only [freshT, List.mem_singleton] at hx
    subst hx
    exact ⟨(by decide : 0 < 1), (by decide : 1 < 2)⟩, by simp [freshT]⟩
end Go.Proofs.YtenfkghoolegfaaGreatDoor
set_option linter.unusedVariables false
namespace Go.Proofs.YtenfkghoolegfaaGreatDoor
def freePg (lsn next : Nat) : PN := ⟨5, lsn, [], next, [], 0, 0, 0, 0⟩
def overPg (lsn : Nat) (next : Nat) (d : List UInt8) : PN := ⟨4, lsn, [], next, d, 0, 0, 0, 0⟩
theorem freePg_put (lsn next : Nat) : putE (freePg lsn next) = 0 := by
  unfold putE
  have h : nodeOK (freePg lsn next) = true := by unfold nodeOK plainOK freePg; simp
  rw [h, if_neg (by simp), if_neg (by rw [show (freePg lsn next).kind = 5 from rfl]; omega)]
theorem freePg_fit {lsn next : Nat} (h : lsn < 18446744073709551616) (h2 : next < 4294967296) : (freePg lsn next).Fit :=
  ⟨h, h2, (by decide : 0 < 4294967296), (by decide : 0 < 4294967296), (by decide : 0 < 4294967296), (by decide : 0 < 18446744073709551616), fun c hc => by cases hc⟩
theorem overPg_put {lsn next : Nat} {d : List UInt8} (h : 1 ≤ d.length ∧ d.length ≤ 238) : putE (overPg lsn next d) = 0 := by
  unfold putE
  have h : nodeOK (overPg lsn next d) = true := by
    unfold nodeOK plainOK overPg
    simp
    omega
  rw [h, if_neg (by simp), if_neg (by rw [show (overPg lsn next d).kind = 4 from rfl]; omega)]
theorem overPg_fit {lsn next : Nat} {d : List UInt8} (h : lsn < 18446744073709551616) (h2 : next < 4294967296) : (overPg lsn next d).Fit :=
  ⟨h, h2, (by decide : 0 < 4294967296), (by decide : 0 < 4294967296), (by decide : 0 < 4294967296), (by decide : 0 < 18446744073709551616), fun c hc => by cases hc⟩
/-- The free pages, the first one to be given out ahead. -/
def Chain (lsn pages : Nat) (o : Over) : Nat → List Nat → Prop
  | f, [] => f = 0
  | f, b :: r => f = b ∧ b ≠ 0 ∧ b < pages ∧ ∃ nx, lookO b o = some (putP (freePg lsn nx)) ∧ nx < pages ∧ Chain lsn pages o nx r
theorem Chain.set {lsn pages : Nat} {o : Over} {n : Nat} {c : List UInt8} : ∀ {l : List Nat} {f : Nat}, n ∉ l → Chain lsn pages o f l → Chain lsn pages (setO n c o) f l
  | [], _, _, h => h
  | b :: r, f, hn, ⟨h1, h2, h3, nx, h4, h5, h6⟩ => ⟨h1, h2, h3, nx, by rw [lookO_setO, if_neg (fun e => hn (by rw [e]; simp)), h4], h5, Chain.set (fun hh => hn (List.mem_cons_of_mem _ hh)) h6⟩
theorem Chain.more {lsn pages p2 : Nat} {o : Over} (hp : pages ≤ p2) : ∀ {l : List Nat} {f : Nat}, Chain lsn pages o f l → Chain lsn p2 o f l
  | [], _, h => h
  | b :: r, f, ⟨h1, h2, h3, nx, h4, h5, h6⟩ => ⟨h1, h2, by omega, nx, h4, by omega, Chain.more hp h6⟩
structure Once (t : PT) (out back : List Nat) : Prop where
  ok : t.OK
  pages : t.pages = 2 + out.length + back.length
  nodup : (out ++ back).Nodup
  bound : ∀ n ∈ out ++ back, 2 ≤ n ∧ n < t.pages
  chain : Chain t.lsn t.pages t.over t.free back.reverse
theorem once_fresh {lsn : Nat} (h : lsn < 18446744073709551616) : Once (freshT lsn) [] [] :=
  ⟨freshT_ok h, rfl, by simp, fun n hn => absurd hn (by simp), rfl⟩
theorem once_put {t : PT} {out back : List Nat} {n : Nat} (ok : t.OK) (hp : t.pages = 2 + (out ++ [n]).length + back.length) (nodup : ((out ++ [n]) ++ back).Nodup) (hb : ∀ m ∈ (out ++ [n]) ++ back, 2 ≤ m ∧ m < t.pages)
    (chain : Chain t.lsn t.pages t.over t.free back.reverse) : putE' t n (overPg 0 0 [1]) = 0 ∧ Once (putT t n (overPg 0 0 [1])) (out ++ [n]) back := by
  have hn := hb n (by simp)
  have hi : isPageT t n = 0 := by unfold isPageT; rw [if_neg (by omega)]
  have hl : layE t (overPg 0 0 [1]) = 0 := overPg_put (lsn := t.lsn) (next := 0) (d := [1]) (by simp)
  refine ⟨by unfold putE'; rw [hi, hl]; rfl, ?_⟩
  have e : putT t n (overPg 0 0 [1]) = { t with over := setO n (putP (overPg t.lsn 0 [1])) t.over, changed := true } := by
    unfold putT layT
    rw [hi, if_neg (by simp), if_pos hl]
    rfl
  have hok := putT_ok ok n (overPg 0 0 [1])
  rw [e] at hok ⊢
  have hnb : n ∉ back.reverse := by
    rw [List.mem_reverse]
    intro hm
    rw [List.nodup_append] at nodup
    exact nodup.2.2 n (by simp) n hm rfl
  exact ⟨hok, hp, nodup, hb, chain.set hnb⟩
theorem once_alloc {t : PT} {out back : List Nat} (h : Once t out back) (hs : out.length + back.length < 500) :
    ∃ n t1, allocT t = (0, n, t1) ∧ t1.OK ∧ n ∉ out ∧ (back ≠ [] → back = back.dropLast ++ [n]) ∧ n < 4294967296 ∧ putE' t1 n (overPg 0 0 [1]) = 0 ∧ Once (putT t1 n (overPg 0 0 [1])) (out ++ [n]) back.dropLast := by
  have h0 := h.ok.head
  have hpg := h.pages
  have hao := allocT_ok h.ok
  rcases List.eq_nil_or_concat back with rfl | ⟨bs, b, rfl⟩
  · have hf : t.free = 0 := h.chain
    have e : allocT t = (0, t.pages, { t with pages := t.pages + 1, changed := true }) := by
      unfold allocT
      rw [if_neg (by simp [hf]), if_neg (by simp at hpg; simp at hs; omega)]
    rw [e] at hao
    have hno : t.pages ∉ out := fun hm => by have := (h.bound t.pages (by simp [hm])).2; omega
    have hnd := h.nodup
    have key := once_put (t := { t with pages := t.pages + 1, changed := true }) (out := out) (back := []) (n := t.pages) hao (by show t.pages + 1 = _; simp at hpg ⊢; omega) (by
      rw [List.append_nil] at hnd ⊢
      rw [List.nodup_append]
      exact ⟨hnd, by simp, fun a ha c hc e => by simp only [List.mem_singleton] at hc; subst hc; subst e; exact hno ha⟩) (fun m hm => by
      simp only [List.append_nil, List.mem_append, List.mem_singleton] at hm
      show 2 ≤ m ∧ m < t.pages + 1
      rcases hm with hm | rfl
      · have := h.bound m (by simp [hm]); omega
      · omega) (Chain.more (Nat.le_succ _) h.chain)
    exact ⟨_, _, e, hao, hno, fun hh => absurd rfl hh, by omega, key.1, key.2⟩
  · rw [List.concat_eq_append] at *
    have hc := h.chain
    rw [List.reverse_append, List.reverse_singleton, List.singleton_append] at hc
    obtain ⟨h1, h2, h3, nx, h4, h5, h6⟩ := hc
    have hg := get_putND (freePg_put t.lsn nx) (freePg_fit h.ok.lsn (by omega))
    have hn : nodeT t t.free = .ok (freePg t.lsn nx) := by
      unfold nodeT pageT
      rw [if_neg (by omega), h1, h4]
      exact hg.1
    have e : allocT t = (0, b, { t with free := nx, changed := true }) := by
      unfold allocT
      rw [if_pos (by omega), hn]
      simp only
      rw [if_neg (by rw [show (freePg t.lsn nx).kind = 5 from rfl, show (freePg t.lsn nx).next = nx from rfl]; omega), h1]
      rfl
    rw [e] at hao
    have hnd := h.nodup
    rw [List.dropLast_concat]
    have hnd2 : ((out ++ [b]) ++ bs).Nodup := by
      refine (List.Perm.nodup_iff ?_).1 hnd
      rw [List.append_assoc]
      exact List.Perm.append_left out List.perm_append_comm
    have key := once_put (t := { t with free := nx, changed := true }) (out := out) (back := bs) (n := b) hao (by show t.pages = _; rw [hpg]; simp; omega) hnd2 (fun m hm => h.bound m (by
      simp only [List.mem_append, List.mem_singleton] at hm ⊢
      rcases hm with (hm | hm) | hm
      · exact .inl hm
      · exact .inr (.inr hm)
      · exact .inr (.inl hm))) h6
    refine ⟨_, _, e, hao, ?_, fun _ => rfl, by omega, key.1, key.2⟩
    intro hm
    rw [List.nodup_append] at hnd
    exact hnd.2.2 b hm b (by simp) rfl
theorem once_free {t : PT} {out back : List Nat} (h : Once t out back) {k : Nat} {n : Nat} (hk : out[k]? = some n) :
    ∃ t1, freeT t n = (0, t1) ∧ t1.OK ∧ Once t1 (out.take k ++ out.drop (k + 1)) (back ++ [n]) := by
  have hkl : k < out.length := (List.getElem?_eq_some_iff.1 hk).1
  have hn := h.bound n (by rw [List.mem_append]; exact .inl (List.mem_of_getElem? hk))
  have hi : isPageT t n = 0 := by unfold isPageT; rw [if_neg (by omega)]
  have hl : layE t (freeN t) = 0 := freePg_put t.lsn t.free
  have e2 : layT t n (freeN t) = { t with over := setO n (putP (freePg t.lsn t.free)) t.over, changed := true } := by
    unfold layT
    rw [if_pos hl]
    rfl
  have e : freeT t n = (0, { t with over := setO n (putP (freePg t.lsn t.free)) t.over, changed := true, free := n }) := by
    unfold freeT
    rw [hi, if_neg (by simp), hl, if_neg (by simp), e2]
  have hok := freeT_ok h.ok n
  rw [e] at hok
  have hsplit : out = out.take k ++ n :: out.drop (k + 1) := by
    have hg : out[k] = n := by rw [List.getElem?_eq_getElem hkl] at hk; exact Option.some.inj hk
    rw [← hg, ← List.drop_eq_getElem_cons hkl, List.take_append_drop]
  have hperm : List.Perm (out ++ back) ((out.take k ++ out.drop (k + 1)) ++ (back ++ [n])) := by
    have h1 : List.Perm out (n :: (out.take k ++ out.drop (k + 1))) := by
      conv => lhs; rw [hsplit]
      exact List.perm_middle
    refine (h1.append_right back).trans ?_
    rw [List.cons_append, ← List.append_assoc]
    exact (List.perm_append_singleton n _).symm
  have hnb : n ∉ back := by
    have hnd := h.nodup
    rw [List.nodup_append] at hnd
    exact fun hm => hnd.2.2 n (List.mem_of_getElem? hk) n hm rfl
  refine ⟨_, e, hok, hok, ?_, hperm.nodup_iff.1 h.nodup, fun m hm => h.bound m (hperm.mem_iff.2 hm), ?_⟩
  · show t.pages = _
    rw [h.pages]
    simp only [List.length_append, List.length_take, List.length_drop, List.length_singleton]
    omega
  · show Chain t.lsn t.pages (setO n (putP (freePg t.lsn t.free)) t.over) n (back ++ [n]).reverse
    rw [List.reverse_append, List.reverse_singleton, List.singleton_append]
    have := h.ok.head
    exact ⟨rfl, by omega, hn.2, t.free, by rw [lookO_setO, if_pos rfl], by omega, Chain.set (by rw [List.mem_reverse]; exact hnb) h.chain⟩
end Go.Proofs.YtenfkghoolegfaaGreatDoor
set_option linter.unusedVariables false
namespace Go.Proofs.YtenfkghoolegfaaGreatDoor
/-- A list of pages with one of them changed. -/
def overS (p : List (List UInt8)) (n : Nat) (b : List UInt8) : List (List UInt8) := (p ++ List.replicate (n + 1 - p.length) []).set n b
def overL (p : List (List UInt8)) (l : Over) : List (List UInt8) := l.foldl (fun p x => overS p x.1 x.2) p
theorem overS_get (p : List (List UInt8)) (n m : Nat) (b : List UInt8) : (overS p n b)[m]? = if m = n then some b else if m < p.length then p[m]? else if m < n then some [] else none := by
  unfold overS
  rw [List.getElem?_set]
  by_cases h : n = m
  · subst h
    rw [if_pos rfl, if_pos rfl, if_pos (by rw [List.length_append, List.length_replicate]; omega)]
  · rw [if_neg h, if_neg (fun e => h e.symm)]
    by_cases h1 : m < p.length
    · rw [if_pos h1, List.getElem?_append_left h1]
    · rw [if_neg h1, List.getElem?_append_right (by omega), List.getElem?_replicate]
      by_cases h2 : m < n
      · rw [if_pos h2, if_pos (by omega)]
      · rw [if_neg h2, if_neg (by omega)]
theorem overS_len (p : List (List UInt8)) (n : Nat) (b : List UInt8) : (overS p n b).length = max p.length (n + 1) := by
  unfold overS
  rw [List.length_set, List.length_append, List.length_replicate]
  omega
theorem overL_len : ∀ (l : Over) (p : List (List UInt8)) (m : Nat), p.length ≤ m → (∀ x ∈ l, x.1 < m) → (overL p l).length ≤ m
  | [], p, m, h, _ => h
  | x :: l, p, m, h, hl => overL_len l _ m (by rw [overS_len]; have := hl x (by simp); omega) (fun y hy => hl y (by simp [hy]))
/-- A page that none of the changes is stays as it was. -/
theorem overL_keep : ∀ (l : Over) (p : List (List UInt8)) (m : Nat), (∀ x ∈ l, x.1 ≠ m) → m < p.length → (overL p l)[m]? = p[m]?
  | [], p, m, _, _ => rfl
  | x :: l, p, m, h, hm => by
    show (overL (overS p x.1 x.2) l)[m]? = _
    rw [overL_keep l _ m (fun y hy => h y (by simp [hy])) (by rw [overS_len]; omega), overS_get, if_neg (fun e => h x (by simp) e.symm), if_pos hm]
theorem overL_put : ∀ (l : Over) (p : List (List UInt8)) (m : Nat) (b : List UInt8), (m, b) ∈ l → (l.map (·.1)).Nodup → (overL p l)[m]? = some b
  | x :: l, p, m, b, h, hn => by
    show (overL (overS p x.1 x.2) l)[m]? = _
    rw [List.map_cons, List.nodup_cons] at hn
    rcases List.mem_cons.1 h with rfl | h
    · rw [overL_keep l _ m (fun y hy e => hn.1 (List.mem_map.2 ⟨y, hy, e⟩)) (by rw [overS_len]; simp only; omega), overS_get, if_pos rfl]
    · exact overL_put l _ m b h hn.2
theorem insO_perm (x : Nat × List UInt8) : ∀ l : Over, List.Perm (insO x l) (x :: l)
  | [] => List.Perm.refl _
  | y :: l => by
    unfold insO
    split
    · exact List.Perm.refl _
    · exact ((insO_perm x l).cons y).trans (List.Perm.swap _ _ _)
theorem sortO_perm : ∀ l : Over, List.Perm (sortO l) l
  | [] => List.Perm.refl _
  | x :: l => (insO_perm x _).trans ((sortO_perm l).cons x)
theorem lookO_mem : ∀ {l : Over} {n : Nat} {b : List UInt8}, lookO n l = some b → (n, b) ∈ l
  | (k, c) :: l, n, b, h => by
    unfold lookO at h
    split at h
    · rename_i e; cases h; subst e; exact List.mem_cons_self ..
    · exact List.mem_cons_of_mem _ (lookO_mem h)
theorem lookO_none : ∀ {l : Over} {n : Nat}, lookO n l = none → ∀ x ∈ l, x.1 ≠ n
  | [], _, _, x, hx => by cases hx
  | (k, c) :: l, n, h, x, hx => by
    unfold lookO at h
    split at h
    · cases h
    · rename_i e
      rcases List.mem_cons.1 hx with rfl | hx
      · exact e
      · exact lookO_none h x hx
theorem pageT_0 {t : PT} (h : t.OK) (hc : t.changed = true) : pageT t 0 = .ok (putP t.head) := by
  have h0 := h.head
  unfold pageT
  rw [if_neg (by omega)]
  cases hl : lookO 0 t.over with
  | some b => have := (h.keys _ (lookO_mem hl)).1; simp at this
  | none => simp only; rw [if_pos ⟨trivial, hc⟩]
theorem changesT_nodup {t : PT} (h : t.OK) : ((changesT t).map (·.1)).Nodup := by
  unfold changesT
  split
  · rw [List.map_cons, List.nodup_cons]
    have hp := (sortO_perm t.over).map (·.1)
    refine ⟨fun hm => ?_, hp.nodup_iff.2 h.nodup⟩
    obtain ⟨x, hx, e⟩ := List.mem_map.1 hm
    have := (h.keys x ((sortO_perm t.over).mem_iff.1 hx)).1
    simp only at e
    omega
  · exact List.nodup_nil
theorem changesT_keys {t : PT} (h : t.OK) : ∀ x ∈ changesT t, x.1 < t.pages := by
  intro x hx
  have h0 := h.head
  unfold changesT at hx
  split at hx
  · rcases List.mem_cons.1 hx with rfl | hx
    · show 0 < t.pages; omega
    · exact (h.keys x ((sortO_perm t.over).mem_iff.1 hx)).2
  · cases hx
/-- A transaction whose pages that were put tell that it was changed. -/
def PT.told (t : PT) : Prop := t.over ≠ [] → t.changed = true
theorem layT_told {t : PT} (h : t.told) (n : Nat) (x : PN) : (layT t n x).told := by
  unfold layT
  split
  · exact fun _ => rfl
  · exact h
/-- What a transaction shows is what its changes, laid over its source, are. -/
theorem page_over {t : PT} (h : t.OK) (ht : t.told) {n : Nat} {b : List UInt8} (hp : pageT t n = .ok b) : (overL t.src (changesT t))[n]? = some b := by
  unfold pageT at hp
  split at hp
  · cases hp
  · split at hp
    · rename_i c hc
      cases hp
      have hm := lookO_mem hc
      refine overL_put _ _ n b ?_ (changesT_nodup h)
      unfold changesT
      rw [if_pos (ht (List.ne_nil_of_mem hm))]
      exact List.mem_cons_of_mem _ ((sortO_perm t.over).mem_iff.2 hm)
    · rename_i hno
      split at hp
      · rename_i hc
        cases hp
        obtain ⟨rfl, hc⟩ := hc
        refine overL_put _ _ 0 _ ?_ (changesT_nodup h)
        have h0 := pageT_0 h hc
        unfold changesT
        rw [if_pos hc, h0]
        exact List.mem_cons_self ..
      · rename_i hc
        split at hp
        · rename_i b' hb
          cases hp
          rw [← hb]
          refine overL_keep _ _ n (fun x hx e => ?_) (List.getElem?_eq_some_iff.1 hb).1
          unfold changesT at hx
          split at hx
          · rename_i hch
            rcases List.mem_cons.1 hx with rfl | hx
            · exact hc ⟨e.symm, hch⟩
            · exact lookO_none hno x ((sortO_perm t.over).mem_iff.1 hx) e
          · cases hx
        · cases hp
theorem changesT_0 {t : PT} (h : t.OK) (hc : t.changed = true) (p : List (List UInt8)) : (overL p (changesT t))[0]? = some (putP t.head) := by
  refine overL_put _ _ 0 _ ?_ (changesT_nodup h)
  have h0 := pageT_0 h hc
  unfold changesT
  rw [if_pos hc, h0]
  exact List.mem_cons_self ..
/-- A transaction begun on what another one left. -/
theorem begin_over {t : PT} (h : t.OK) (hc : t.changed = true) (p : List (List UInt8)) (lsn : Nat) (hl : lsn < 18446744073709551616) :
    beginT (overL p (changesT t)) lsn = .ok ⟨overL p (changesT t), lsn, t.root, t.pages, t.free, t.entries, [], false⟩ ∧ (⟨overL p (changesT t), lsn, t.root, t.pages, t.free, t.entries, [], false⟩ : PT).OK ∧
      (⟨overL p (changesT t), lsn, t.root, t.pages, t.free, t.entries, [], false⟩ : PT).told := by
  refine ⟨?_, ⟨hl, h.head, h.entries, fun x hx => (by cases hx), List.nodup_nil⟩, fun hh => absurd rfl hh⟩
  unfold beginT
  rw [changesT_0 h hc]
  simp only
  rw [(get_putND h.putE h.fit).1]
  simp only
  rw [if_pos (show t.head.kind = 1 from rfl)]
  rfl
theorem putT_told {t : PT} (h : t.told) (n : Nat) (x : PN) : (putT t n x).told := by
  unfold putT
  split
  · exact h
  · exact layT_told h n x
theorem allocT_told {t : PT} (h : t.told) : (allocT t).2.2.told := by
  unfold allocT
  split
  · split
    · exact h
    · split
      · exact h
      · exact fun _ => rfl
  · split
    · exact h
    · exact fun _ => rfl
theorem freeT_told {t : PT} (h : t.told) (n : Nat) : (freeT t n).2.told := by
  unfold freeT
  split
  · exact h
  · split
    · exact h
    · exact layT_told h n (freeN t)
theorem rootT_told {t : PT} (h : t.told) (n : Nat) : (rootT t n).2.told := by
  unfold rootT
  split
  · exact h
  · exact fun _ => rfl
theorem countT_told {t : PT} (h : t.told) (k : Int) : (countT t k).2.told := by
  unfold countT
  split
  · exact h
  · exact fun _ => rfl
end Go.Proofs.YtenfkghoolegfaaGreatDoor
set_option linter.unusedVariables false
namespace Go.Proofs.YtenfkghoolegfaaGreatDoor
def nCh (v : List UInt8) : Nat := (v.length + 237) / 238
def allocsT : Nat → PT → Int × List Nat × PT
  | 0, t => (0, [], t)
  | k + 1, t => if (allocT t).1 ≠ 0 then ((allocT t).1, [], (allocT t).2.2) else ((allocsT k (allocT t).2.2).1, (allocT t).2.1 :: (allocsT k (allocT t).2.2).2.1, (allocsT k (allocT t).2.2).2.2)
def putsT : PT → List Nat → List UInt8 → Int × PT
  | t, [], _ => (0, t)
  | t, p :: ps, v => if putE' t p (overPg 0 (ps.headD 0) (v.take 238)) ≠ 0 then (putE' t p (overPg 0 (ps.headD 0) (v.take 238)), t) else putsT (putT t p (overPg 0 (ps.headD 0) (v.take 238))) ps (v.drop 238)
def writeT (t : PT) (v : List UInt8) : Int × Nat × PT :=
  if v.length < 1 ∨ 1000 < v.length then (2, 0, t)
  else if (allocsT (nCh v) t).1 ≠ 0 then ((allocsT (nCh v) t).1, 0, (allocsT (nCh v) t).2.2)
  else if (putsT (allocsT (nCh v) t).2.2 (allocsT (nCh v) t).2.1 v).1 ≠ 0 then ((putsT (allocsT (nCh v) t).2.2 (allocsT (nCh v) t).2.1 v).1, 0, (putsT (allocsT (nCh v) t).2.2 (allocsT (nCh v) t).2.1 v).2)
  else (0, (allocsT (nCh v) t).2.1.headD 0, (putsT (allocsT (nCh v) t).2.2 (allocsT (nCh v) t).2.1 v).2)
/-- Along a chain: its pages, and what they have. -/
def walkT (t : PT) : Nat → Nat → Nat → Except Int (List Nat × List UInt8)
  | 0, _, _ => .ok ([], [])
  | f + 1, at', left => if left = 0 then .ok ([], []) else match nodeT t at' with
    | .error e => .error e
    | .ok x => if x.kind ≠ 4 ∨ x.data.length ≠ min 238 left ∨ ¬ (x.next = 0 ↔ left - min 238 left = 0) then .error 100 else match walkT t f x.next (left - min 238 left) with
      | .error e => .error e
      | .ok r => .ok (at' :: r.1, x.data ++ r.2)
/-- A value of a length: it may be none. -/
def readT (t : PT) (first : Nat) (size : Int) : Except Int (List Nat × List UInt8) := if size < 1 ∨ 1000 < size then .error 2 else walkT t 5 first size.toNat
def freesT : PT → List Nat → Int × PT
  | t, [] => (0, t)
  | t, p :: ps => if (freeT t p).1 ≠ 0 then freeT t p else freesT (freeT t p).2 ps
def freeCT (t : PT) (first : Nat) (size : Int) : Int × PT := match readT t first size with
  | .error e => (e, t)
  | .ok r => freesT t r.1.reverse
/-- A value that lies in pages. -/
def LaidC (lsn : Nat) (o : Over) : List Nat → List UInt8 → Prop
  | [], v => v = []
  | p :: ps, v => v ≠ [] ∧ 2 ≤ p ∧ p < 512 ∧ lookO p o = some (putP (overPg lsn (ps.headD 0) (v.take 238))) ∧ LaidC lsn o ps (v.drop 238)
theorem LaidC.set {lsn : Nat} {o : Over} {n : Nat} {b : List UInt8} : ∀ {ps : List Nat} {v : List UInt8}, n ∉ ps → LaidC lsn o ps v → LaidC lsn (setO n b o) ps v
  | [], _, _, h => h
  | p :: ps, v, hn, ⟨h1, h2, h3, h4, h5⟩ => ⟨h1, h2, h3, by rw [lookO_setO, if_neg (fun e => hn (by rw [e]; simp)), h4], LaidC.set (fun hh => hn (List.mem_cons_of_mem _ hh)) h5⟩
theorem LaidC.len {lsn : Nat} {o : Over} : ∀ {ps : List Nat} {v : List UInt8}, LaidC lsn o ps v → ps.length = nCh v
  | [], v, h => by rw [show v = [] from h]; rfl
  | p :: ps, v, ⟨h1, h2, h3, h4, h5⟩ => by
    have := LaidC.len h5
    unfold nCh at this ⊢
    rw [List.length_drop] at this
    have := List.length_pos_iff.2 h1
    rw [List.length_cons]
    omega
theorem LaidC.two {lsn : Nat} {o : Over} : ∀ {ps : List Nat} {v : List UInt8}, LaidC lsn o ps v → ∀ p ∈ ps, 2 ≤ p ∧ p < 512
  | [], v, h, p, hp => by cases hp
  | q :: ps, v, ⟨h1, h2, h3, h4, h5⟩, p, hp => by
    rcases List.mem_cons.1 hp with rfl | hp
    · exact ⟨h2, h3⟩
    · exact LaidC.two h5 p hp
/-- What lies in pages is read. -/
theorem walk_laid {t : PT} (ht : t.OK) : ∀ (f : Nat) (ps : List Nat) (v : List UInt8), LaidC t.lsn t.over ps v → ps.length ≤ f → (∀ p ∈ ps, p < t.pages) → walkT t f (ps.headD 0) v.length = .ok (ps, v)
  | 0, [], v, h, _, _ => by rw [show v = [] from h]; rfl
  | 0, p :: ps, v, h, hl, _ => by simp at hl
  | f + 1, [], v, h, _, _ => by rw [show v = [] from h]; rfl
  | f + 1, p :: ps, v, ⟨h1, h2, h3, h4, h5⟩, hl, hb => by
    have hv := List.length_pos_iff.2 h1
    have hh : ps.headD 0 < 4294967296 := by
      cases ps with
      | nil => decide
      | cons q r => have := (LaidC.two h5 q (by simp)).2; show q < _; omega
    have hg := get_putND (overPg_put (lsn := t.lsn) (next := ps.headD 0) (d := v.take 238) (by rw [List.length_take]; omega)) (overPg_fit ht.lsn hh)
    have hn : nodeT t p = .ok (overPg t.lsn (ps.headD 0) (v.take 238)) := by
      unfold nodeT pageT
      have := hb p (by simp)
      rw [if_neg (by omega), h4]
      exact hg.1
    have hz : (ps.headD 0 = 0 ↔ v.length - min 238 v.length = 0) := by
      cases ps with
      | nil =>
        have : (v.drop 238).length = 0 := by rw [show v.drop 238 = [] from h5]; rfl
        rw [List.length_drop] at this
        show (0 = 0 ↔ _)
        omega
      | cons q r =>
        have h6 := List.length_pos_iff.2 h5.1
        rw [List.length_drop] at h6
        have := (LaidC.two h5 q (by simp)).1
        show (q = 0 ↔ _)
        omega
    have ih := walk_laid ht f ps (v.drop 238) h5 (by simp at hl; exact hl) (fun q hq => hb q (by simp [hq]))
    rw [List.length_drop, show v.length - 238 = v.length - min 238 v.length by omega] at ih
    show walkT t (f + 1) p v.length = _
    unfold walkT
    rw [if_neg (by omega), hn]
    simp only
    rw [if_neg, show (overPg t.lsn (ps.headD 0) (v.take 238)).next = ps.headD 0 from rfl, ih]
    · show Except.ok (p :: ps, v.take 238 ++ v.drop 238) = _
      rw [List.take_append_drop]
    · rintro (h | h | h)
      · exact h rfl
      · exact h (by show (v.take 238).length = _; rw [List.length_take])
      · exact h hz
/-- Pages that are given out behind all others. -/
theorem allocs_new : ∀ (k : Nat) (t : PT), t.free = 0 → t.pages + k ≤ 512 → allocsT k t = (0, List.range' t.pages k, { t with pages := t.pages + k, changed := t.changed || decide (0 < k) })
  | 0, t, _, _ => by simp [allocsT]
  | k + 1, t, h, hp => by
    have e : allocT t = (0, t.pages, { t with pages := t.pages + 1, changed := true }) := by
      unfold allocT
      rw [if_neg (by simp [h]), if_neg (by omega)]
    unfold allocsT
    rw [e]
    have ih := allocs_new k { t with pages := t.pages + 1, changed := true } h (by show t.pages + 1 + k ≤ 512; omega)
    simp only at ih ⊢
    rw [if_neg (by simp), ih, List.range'_succ]
    simp
    omega
theorem lay_over (t : PT) (p next : Nat) (d : List UInt8) (hp : isPageT t p = 0) (hd : 1 ≤ d.length ∧ d.length ≤ 238) :
    putE' t p (overPg 0 next d) = 0 ∧ putT t p (overPg 0 next d) = { t with over := setO p (putP (overPg t.lsn next d)) t.over, changed := true } := by
  have hl : layE t (overPg 0 next d) = 0 := overPg_put (lsn := t.lsn) (next := next) (d := d) hd
  constructor
  · unfold putE'
    rw [hp, hl]
    rfl
  · unfold putT layT
    rw [hp, if_neg (by simp), if_pos hl]
    rfl
theorem LaidC.congr {lsn : Nat} {o o' : Over} : ∀ {ps : List Nat} {v : List UInt8}, (∀ p ∈ ps, lookO p o' = lookO p o) → LaidC lsn o ps v → LaidC lsn o' ps v
  | [], _, _, h => h
  | p :: ps, v, hq, ⟨h1, h2, h3, h4, h5⟩ => ⟨h1, h2, h3, by rw [hq p (by simp), h4], LaidC.congr (fun q hm => hq q (by simp [hm])) h5⟩
theorem puts_laid : ∀ (ps : List Nat) (v : List UInt8) (t : PT), t.OK → ps.Nodup → ps.length = nCh v → (∀ p ∈ ps, 2 ≤ p ∧ p < t.pages) →
    ∃ o c, putsT t ps v = (0, { t with over := o, changed := c }) ∧ (t.changed = true → c = true) ∧ ({ t with over := o, changed := c } : PT).OK ∧ LaidC t.lsn o ps v ∧ ∀ q, q ∉ ps → lookO q o = lookO q t.over
  | [], v, t, ht, _, hl, _ => by
    refine ⟨t.over, t.changed, rfl, id, ht, ?_, fun _ _ => rfl⟩
    unfold nCh at hl
    exact List.eq_nil_of_length_eq_zero (by simp at hl; omega)
  | p :: ps, v, t, ht, hn, hl, hb => by
    have hp := hb p (by simp)
    have h0 := ht.head
    rw [List.nodup_cons] at hn
    have hv : 0 < v.length := by unfold nCh at hl; simp at hl; omega
    have hi : isPageT t p = 0 := by unfold isPageT; rw [if_neg (by omega)]
    obtain ⟨e1, e2⟩ := lay_over t p (ps.headD 0) (v.take 238) hi (by rw [List.length_take]; omega)
    have hok := putT_ok ht p (overPg 0 (ps.headD 0) (v.take 238))
    rw [e2] at hok
    obtain ⟨o, c, q1, q2, q3, q4, q5⟩ := puts_laid ps (v.drop 238) _ hok hn.2 (by unfold nCh at hl ⊢; rw [List.length_drop]; simp at hl; omega) (fun q hq => hb q (by simp [hq]))
    refine ⟨o, c, ?_, fun _ => q2 rfl, q3, ⟨List.ne_nil_of_length_pos hv, hp.1, by omega, ?_, q4⟩, fun q hq => ?_⟩
    · unfold putsT
      rw [e1, if_neg (by simp), e2, q1]
    · rw [q5 p hn.1]
      show lookO p (setO p _ t.over) = _
      rw [lookO_setO, if_pos rfl]
    · rw [List.mem_cons, not_or] at hq
      rw [q5 q hq.2]
      show lookO q (setO p _ t.over) = _
      rw [lookO_setO, if_neg (fun e => hq.1 e.symm)]
/-- What ChainBack has written. -/
structure Back (t : PT) (vs : List (List Nat × List UInt8)) (fr : List Nat) : Prop where
  ok : t.OK
  laid : ∀ x ∈ vs, LaidC t.lsn t.over x.1 x.2 ∧ 1 ≤ x.2.length ∧ x.2.length ≤ 1000
  chain : Chain t.lsn t.pages t.over t.free fr
  bound : ∀ p ∈ vs.flatMap (·.1) ++ fr, 2 ≤ p ∧ p < t.pages
  nodup : (vs.flatMap (·.1) ++ fr).Nodup
  count : t.pages = 2 + (vs.flatMap (·.1)).length + fr.length
theorem back_fresh : Back (freshT 1) [] [] :=
  ⟨freshT_ok (by decide), fun x hx => absurd hx (by simp), rfl, fun p hp => absurd hp (by simp), by simp, rfl⟩
theorem nCh_le {v : List UInt8} (h : v.length ≤ 1000) : nCh v ≤ 5 := by unfold nCh; omega
theorem back_write {t : PT} {vs : List (List Nat × List UInt8)} (h : Back t vs []) {v : List UInt8} (h1 : 1 ≤ v.length) (h2 : v.length ≤ 1000) (hp : t.pages + 5 ≤ 512) :
    ∃ t', writeT t v = (0, t.pages, t') ∧ Back t' (vs ++ [(List.range' t.pages (nCh v), v)]) [] ∧ t'.pages ≤ t.pages + 5 ∧ (List.range' t.pages (nCh v)).headD 0 = t.pages := by
  have hc := nCh_le h2
  have hc1 : 1 ≤ nCh v := by unfold nCh; omega
  have ea := allocs_new (nCh v) t h.chain (by omega)
  have h0 := h.ok.head
  have hok : ({ t with pages := t.pages + nCh v, changed := t.changed || decide (0 < nCh v) } : PT).OK :=
    ⟨h.ok.lsn, ⟨by show 2 ≤ t.pages + _; omega, by show t.pages + _ ≤ 512; omega, h0.2.2.1, by show t.root < t.pages + _; omega, by show t.free < t.pages + _; omega⟩, h.ok.entries, fun x hx => by have := h.ok.keys x hx; exact ⟨this.1, by show x.1 < t.pages + _; omega⟩, h.ok.nodup⟩
  have hmem : ∀ p, p ∈ List.range' t.pages (nCh v) ↔ t.pages ≤ p ∧ p < t.pages + nCh v := fun p => by rw [List.mem_range'_1]
  obtain ⟨o, c, q1, q2, q3, q4, q5⟩ := puts_laid (List.range' t.pages (nCh v)) v _ hok (List.nodup_range' ..) (by simp) (fun p hp' => by
    rw [hmem] at hp'
    exact ⟨by omega, by show p < t.pages + _; omega⟩)
  have hhd : (List.range' t.pages (nCh v)).headD 0 = t.pages := by
    obtain ⟨k, hk⟩ : ∃ k, nCh v = k + 1 := ⟨nCh v - 1, by omega⟩
    rw [hk, List.range'_succ]
    rfl
  refine ⟨_, ?_, ⟨q3, ?_, h.chain, ?_, ?_, ?_⟩, by show t.pages + nCh v ≤ _; omega, hhd⟩
  · unfold writeT
    rw [if_neg (by omega), ea, if_neg (by simp), q1, if_neg (by simp)]
    simp only [hhd]
  · intro x hx
    rw [List.mem_append, List.mem_singleton] at hx
    rcases hx with hx | rfl
    · obtain ⟨g1, g2⟩ := h.laid x hx
      refine ⟨LaidC.congr (fun p hm => q5 p (fun hr => ?_)) g1, g2⟩
      rw [hmem] at hr
      have := (h.bound p (by rw [List.append_nil, List.mem_flatMap]; exact ⟨x, hx, hm⟩)).2
      omega
    · exact ⟨q4, h1, h2⟩
  · intro p hm
    rw [List.append_nil, List.flatMap_append, List.mem_append] at hm
    show 2 ≤ p ∧ p < t.pages + nCh v
    rcases hm with hm | hm
    · have := h.bound p (by rw [List.append_nil]; exact hm); omega
    · simp only [List.flatMap_cons, List.flatMap_nil, List.append_nil] at hm
      rw [hmem] at hm
      omega
  · rw [List.append_nil, List.flatMap_append]
    have hn := h.nodup
    rw [List.append_nil] at hn
    rw [List.nodup_append]
    refine ⟨hn, by simp only [List.flatMap_cons, List.flatMap_nil, List.append_nil]; exact List.nodup_range' .., fun a ha b hb e => ?_⟩
    simp only [List.flatMap_cons, List.flatMap_nil, List.append_nil] at hb
    rw [hmem] at hb
    have := (h.bound a (by rw [List.append_nil]; exact ha)).2
    omega
  · show t.pages + nCh v = _
    have := h.count
    rw [List.flatMap_append, List.length_append]
    simp only [List.flatMap_cons, List.flatMap_nil, List.append_nil, List.length_range', List.length_nil] at this ⊢
    omega
theorem back_read {t : PT} {vs : List (List Nat × List UInt8)} {fr : List Nat} (h : Back t vs fr) {x : List Nat × List UInt8} (hx : x ∈ vs) : readT t (x.1.headD 0) x.2.length = .ok x := by
  obtain ⟨g1, g2, g3⟩ := h.laid x hx
  unfold readT
  rw [if_neg (by omega), Int.toNat_natCast]
  exact walk_laid h.ok 5 x.1 x.2 g1 (by rw [g1.len]; exact nCh_le g3) (fun p hp => (h.bound p (by rw [List.mem_append, List.mem_flatMap]; exact .inl ⟨x, hx, hp⟩)).2)
/-- A page is taken back. -/
theorem free_chain {t : PT} (ht : t.OK) {p : Nat} {fr : List Nat} (hp : 2 ≤ p ∧ p < t.pages) (hc : Chain t.lsn t.pages t.over t.free fr) (hn : p ∉ fr) :
    ∃ t', freeT t p = (0, t') ∧ t'.OK ∧ t'.lsn = t.lsn ∧ t'.pages = t.pages ∧ Chain t.lsn t.pages t'.over t'.free (p :: fr) ∧ ∀ q, q ≠ p → lookO q t'.over = lookO q t.over := by
  have h0 := ht.head
  have hi : isPageT t p = 0 := by unfold isPageT; rw [if_neg (by omega)]
  have hl : layE t (freeN t) = 0 := freePg_put t.lsn t.free
  have e2 : layT t p (freeN t) = { t with over := setO p (putP (freePg t.lsn t.free)) t.over, changed := true } := by
    unfold layT
    rw [if_pos hl]
    rfl
  have e : freeT t p = (0, { t with over := setO p (putP (freePg t.lsn t.free)) t.over, changed := true, free := p }) := by
    unfold freeT
    rw [hi, if_neg (by simp), hl, if_neg (by simp), e2]
  have hok := freeT_ok ht p
  rw [e] at hok
  refine ⟨_, e, hok, rfl, rfl, ⟨rfl, by omega, hp.2, t.free, ?_, by omega, Chain.set hn hc⟩, fun q hq => ?_⟩
  · show lookO p (setO p _ t.over) = _
    rw [lookO_setO, if_pos rfl]
  · show lookO q (setO p _ t.over) = _
    rw [lookO_setO, if_neg (fun e => hq e.symm)]
theorem frees_chain : ∀ (ps : List Nat) (t : PT) (fr : List Nat), t.OK → (∀ p ∈ ps, 2 ≤ p ∧ p < t.pages) → Chain t.lsn t.pages t.over t.free fr → (ps ++ fr).Nodup →
    ∃ t', freesT t ps = (0, t') ∧ t'.OK ∧ t'.lsn = t.lsn ∧ t'.pages = t.pages ∧ Chain t.lsn t.pages t'.over t'.free (ps.reverse ++ fr) ∧ ∀ q, q ∉ ps → lookO q t'.over = lookO q t.over
  | [], t, fr, ht, _, hc, _ => ⟨t, rfl, ht, rfl, rfl, hc, fun _ _ => rfl⟩
  | p :: ps, t, fr, ht, hb, hc, hn => by
    rw [List.cons_append, List.nodup_cons, List.mem_append, not_or] at hn
    obtain ⟨t1, e1, k1, k2, k3, k4, k5⟩ := free_chain ht (hb p (by simp)) hc hn.1.2
    obtain ⟨t2, e2, m1, m2, m3, m4, m5⟩ := frees_chain ps t1 (p :: fr) k1 (fun q hq => by rw [k3]; exact hb q (by simp [hq])) (by rw [k2, k3]; exact k4) (by
      refine (List.Perm.nodup_iff List.perm_middle).2 ?_
      rw [List.nodup_cons, List.mem_append, not_or]
      exact ⟨hn.1, hn.2⟩)
    refine ⟨t2, ?_, m1, m2.trans k2, m3.trans k3, ?_, fun q hq => ?_⟩
    · unfold freesT
      rw [e1, if_neg (by simp)]
      exact e2
    · rw [k2, k3] at m4
      rw [List.reverse_cons, List.append_assoc]
      exact m4
    · rw [List.mem_cons, not_or] at hq
      rw [m5 q hq.2, k5 q hq.1]
theorem back_free {t : PT} {x : List Nat × List UInt8} {vs : List (List Nat × List UInt8)} {fr : List Nat} (h : Back t (x :: vs) fr) : ∃ t', freeCT t (x.1.headD 0) x.2.length = (0, t') ∧ Back t' vs (x.1 ++ fr) ∧ t'.pages = t.pages := by
  have hr := back_read h (List.mem_cons_self ..)
  have hnd := h.nodup
  rw [List.flatMap_cons, List.append_assoc] at hnd
  have hnd2 := List.nodup_append.1 hnd
  have hbd := h.bound
  rw [List.flatMap_cons] at hbd
  have hfn : (x.1.reverse ++ fr).Nodup := by
    rw [List.nodup_append]
    refine ⟨(List.Perm.nodup_iff (List.reverse_perm _)).2 hnd2.1, (List.nodup_append.1 hnd2.2.1).2.1, fun a ha b hb e => ?_⟩
    exact hnd2.2.2 a (List.mem_reverse.1 ha) b (List.mem_append_right _ hb) e
  obtain ⟨t', e, k1, k2, k3, k4, k5⟩ := frees_chain x.1.reverse t fr h.ok (fun p hp => hbd p (by rw [List.mem_reverse] at hp; simp [hp])) h.chain hfn
  rw [List.reverse_reverse] at k4
  refine ⟨t', ?_, ⟨k1, fun y hy => ?_, by rw [k2, k3]; exact k4, fun p hp => ?_, ?_, ?_⟩, k3⟩
  · unfold freeCT
    rw [hr]
    exact e
  · obtain ⟨g1, g2⟩ := h.laid y (List.mem_cons_of_mem _ hy)
    rw [k2]
    refine ⟨LaidC.congr (fun p hm => k5 p (fun hr => ?_)) g1, g2⟩
    rw [List.mem_reverse] at hr
    exact hnd2.2.2 p hr p (List.mem_append_left _ (List.mem_flatMap.2 ⟨y, hy, hm⟩)) rfl
  · rw [k3]
    refine hbd p ?_
    simp only [List.mem_append] at hp ⊢
    rcases hp with hp | hp | hp
    · exact .inl (.inr hp)
    · exact .inl (.inl hp)
    · exact .inr hp
  · refine (List.Perm.nodup_iff ?_).1 hnd
    exact (List.perm_append_comm_assoc ..)
  · rw [k3, h.count, List.flatMap_cons]
    simp only [List.length_append]
    omega
theorem back_alloc {t : PT} (ht : t.OK) {p : Nat} {fr : List Nat} (hc : Chain t.lsn t.pages t.over t.free (p :: fr)) : ∃ t', allocT t = (0, p, t') ∧ t'.OK ∧ t'.pages = t.pages ∧ Chain t'.lsn t'.pages t'.over t'.free fr := by
  obtain ⟨h1, h2, h3, nx, h4, h5, h6⟩ := hc
  have h0 := ht.head
  have hg := get_putND (freePg_put t.lsn nx) (freePg_fit ht.lsn (by omega))
  have hn : nodeT t t.free = .ok (freePg t.lsn nx) := by
    unfold nodeT pageT
    rw [if_neg (by omega), h1, h4]
    exact hg.1
  have e : allocT t = (0, p, { t with free := nx, changed := true }) := by
    unfold allocT
    rw [if_pos (by omega), hn]
    simp only
    rw [if_neg (by rw [show (freePg t.lsn nx).kind = 5 from rfl, show (freePg t.lsn nx).next = nx from rfl]; omega), h1]
    rfl
  have hao := allocT_ok ht
  rw [e] at hao
  exact ⟨_, e, hao, rfl, h6⟩
end Go.Proofs.YtenfkghoolegfaaGreatDoor
set_option linter.unusedVariables false
namespace Go.Proofs.YtenfkghoolegfaaGreatDoor
section
variable {P : Program} {ops : Array Oper} {Q : Exit → Act → World → Prop} {md : Region.Mode} {S : World → Prop} {n : Nat}
def wpAnyE (P : Program) (md : Region.Mode) (ops : Array Oper) (Q : Exit → Act → World → Prop) (S : World → Prop) (n : Nat) : Nat → Array Bool → Act → World → Prop
  | 0, listed, a, w => Region.ready md ops listed = [] ∧ Q .normal a w
  | fuel + 1, listed, a, w =>
    (Region.ready md ops listed = [] → Q .normal a w) ∧
    ∀ i ∈ Region.ready md ops listed, wpOp P ops Q i (fun a' w' => (i < n → S w') ∧ wpAnyE P md ops Q S n fuel (listed.setIfInBounds i true) a' w') a w
theorem wpAny_of_E : ∀ (fuel : Nat) (listed : Array Bool) (a : Act) (w : World), wpAnyE P md ops Q S n fuel listed a w → wpAny P md ops Q fuel listed a w
  | 0, _, _, _, h => h
  | fuel + 1, _, _, _, h => ⟨h.1, fun i hi => wpOp_mono (fun a' w' h' => wpAny_of_E fuel _ a' w' h'.2) (h.2 i hi)⟩
theorem wpAnyE_first {i : Nat} {oi : Oper} {v : Value} (hi : ops[i]? = some oi) (hsel : ∀ (j : Nat) (o : Oper) cs b, ops[j]? = some o → o.op ≠ .select cs b)
    (hQ : ∀ c a w, Q (.panic c) (a.put oi.dst v) w → Q (.panic c) a w) (hs : Region.sinkB md ops n = true) (hc : Region.chainB md ops n = true) (hn : n < ops.size) (hin : i < n) :
    ∀ (fuel : Nat) (listed : Array Bool) (a : Act) (w : World), HeadInv md ops n listed →
      (∀ j oj, ops[j]? = some oj → j ≠ i → listed.getD j true = false → (∀ e ∈ oj.after, Region.binds md e = true → e.on ≠ i) → oi.apart ops oj = true) →
      i ∈ Region.ready md ops listed → YieldsIf P ops S oi v a → S w →
      wpAnyE P md ops Q S n fuel (listed.setIfInBounds i true) (a.put oi.dst v) w → wpAnyE P md ops Q S n (fuel + 1) listed a w := by
  intro fuel
  induction fuel with
  | zero =>
    intro listed a w _ _ hr hy hS H
    refine ⟨fun h => (by rw [h] at hr; cases hr), fun j hj => ?_⟩
    by_cases hji : j = i
    · subst hji; exact hy.wpOp hi hS ⟨fun _ => hS, H⟩
    · have := ready_mono hj hji
      rw [H.1] at this
      cases this
  | succ fuel ih =>
    intro listed a w inv hfree hr hy hS H
    have hun := (mem_ready.1 hr).1
    refine ⟨fun h => (by rw [h] at hr; cases hr), fun j hj => ?_⟩
    by_cases hji : j = i
    · subst hji; exact hy.wpOp hi hS ⟨fun _ => hS, H⟩
    · have hjn : j < n := by
        rcases Nat.lt_or_ge j n with h | h
        · exact h
        · exact absurd hj (tail_waits hs hc hn inv _ i rfl hin hun j h)
      have h1 := H.2 j (ready_mono hj hji)
      obtain ⟨hjun, oj, hoj, hall⟩ := mem_ready.1 hj
      have hnot : ∀ e ∈ oj.after, Region.binds md e = true → e.on ≠ i := fun e he hb heq => by
        have h1 := hall e he hb
        rw [heq, getD_both hun] at h1
        cases h1
      have h2 := wpOp_putIf hoj (hfree j oj hoj hji hjun hnot) (fun cs b => hsel i oi cs b hi) (fun cs b => hsel j oj cs b hoj) hQ hy h1
      have hfree' : ∀ k ok, ops[k]? = some ok → k ≠ i → (listed.setIfInBounds j true).getD k true = false →
          (∀ e ∈ ok.after, Region.binds md e = true → e.on ≠ i) → oi.apart ops ok = true := fun k ok hk hki hu hno => by
        refine hfree k ok hk hki ?_ hno
        by_cases hjk : j = k
        · subst hjk; exact hjun
        · rw [getD_set_ne true hjk] at hu; exact hu
      refine wpOp_mono (fun a' w' h3 => ⟨h3.2.1, ih (listed.setIfInBounds j true) a' w' (inv.set hj hjn) hfree' (ready_mono hr (Ne.symm hji)) h3.1 (h3.2.1 hjn) ?_⟩) h2
      rw [Array.setIfInBounds_comm _ _ hji]
      exact h3.2.2
/-- What stands fast over a walk through such a region. -/
structure Tl (md : Region.Mode) (ops : Array Oper) (n : Nat) (listed : Array Bool) : Prop where
  sink : Region.sinkB md ops n = true
  chain : Region.chainB md ops n = true
  lt : n < ops.size
  sel : Region.noSelect ops = true
  inv : HeadInv md ops n listed
theorem takeE {listed : Array Bool} (i : Nat) {oi : Oper} {v : Value} {fuel : Nat} {a : Act} {w : World} (T : Tl md ops n listed) (hi : ops.toList[i]? = some oi) (hin : i < n)
    (hf : Region.free md ops listed i = true) (hr : (Region.ready md ops listed).contains i = true) (hQ : ∀ c a w, Q (.panic c) (a.put oi.dst v) w → Q (.panic c) a w) (hS : S w) (hy : YieldsIf P ops S oi v a)
    (h : Tl md ops n (listed.setIfInBounds i true) → wpAnyE P md ops Q S n fuel (listed.setIfInBounds i true) (a.put oi.dst v) w) : wpAnyE P md ops Q S n (fuel + 1) listed a w := by
  have hi' : ops[i]? = some oi := by rw [← Array.getElem?_toList]; exact hi
  have hr' : i ∈ Region.ready md ops listed := by simpa using hr
  exact wpAnyE_first hi' (Region.noSelect_spec T.sel) hQ T.sink T.chain T.lt hin fuel listed a w T.inv (Region.free_spec hi' hf) hr' hy hS (h ⟨T.sink, T.chain, T.lt, T.sel, T.inv.set hr' hin⟩)
theorem oneE {listed : Array Bool} (i : Nat) {o : Oper} {fuel : Nat} {a : Act} {w : World} (hi : ops.toList[i]? = some o) (hr : Region.ready md ops listed = [i])
    (h : ∀ K' : Act → World → Prop, Shut (∀ a w, (i < n → S w) → wpAnyE P md ops Q S n fuel (listed.setIfInBounds i true) a w → K' a w) → if Region.wanted o (yielded ops a.tmps) = true then Oper.wp P o a w K' Q else K' (a.put o.dst undef) w) :
    wpAnyE P md ops Q S n (fuel + 1) listed a w := by
  have hi' : ops[i]? = some o := by rw [← Array.getElem?_toList]; exact hi
  refine ⟨fun h0 => absurd (hr ▸ h0) (by simp), fun j hj => ?_⟩
  rw [hr] at hj
  obtain rfl := List.mem_singleton.1 hj
  exact wpOp_step hi' (fun K' hK => h K' (fun a w hS hW => hK a w ⟨hS, hW⟩))
theorem doneE {listed : Array Bool} {a : Act} {w : World} (hr : Region.ready md ops listed = []) (h : Q .normal a w) : ∀ fuel, wpAnyE P md ops Q S n fuel listed a w
  | 0 => ⟨hr, h⟩
  | _ + 1 => ⟨fun _ => h, by rw [hr]; simp⟩
theorem regionE (n : Nat) {id : Nat} {a : Act} {w : World} (S : World → Prop) (hm : P.follows .mixedOrders = true) (hs : Region.sinkB .any ops n = true) (hc : Region.chainB .any ops n = true) (hn : decide (n < ops.size) = true) (hsel : Region.noSelect ops = true)
    (hS : S w.drew) (h : S w.drew → Tl .any ops n (Array.replicate ops.size false) → wpAnyE P .any ops Q S n ops.size (Array.replicate ops.size false) a w.drew) : (Code.region id ops true).wp P Q a w :=
  wp_region_any hm (wpAny_of_E _ _ _ _ (h hS ⟨hs, hc, of_decide_eq_true hn, hsel, ⟨by simp, (fun j oj _ hl => by rw [getD_replicate_false] at hl; cases hl), (fun t _ ht => by simp [ht])⟩⟩))
end
section
variable {P : Program} {ops : Array Oper} {Q : Exit → Act → World → Prop} {md : Region.Mode} {S S' : World → Prop} {n : Nat}
theorem wpAnyE_mono (h : ∀ w, S' w → S w) : ∀ (fuel : Nat) (listed : Array Bool) (a : Act) (w : World), wpAnyE P md ops Q S' n fuel listed a w → wpAnyE P md ops Q S n fuel listed a w
  | 0, _, _, _, H => H
  | fuel + 1, _, _, _, H => ⟨H.1, fun i hi => wpOp_mono (fun a' w' h' => ⟨fun hin => h _ (h'.1 hin), wpAnyE_mono h fuel _ a' w' h'.2⟩) (H.2 i hi)⟩
theorem Tl.step {listed : Array Bool} (T : Tl md ops n listed) (i : Nat) (hr : (Region.ready md ops listed).contains i = true) (hin : i < n) : Tl md ops n (listed.setIfInBounds i true) :=
  ⟨T.sink, T.chain, T.lt, T.sel, T.inv.set (by simpa using hr) hin⟩
end
open Go.RowKit
theorem step_callW {P : Program} {ops : Array Oper} {o : Oper} {a : Act} {w : World} {K : Act → World → Prop} {Q : Exit → Act → World → Prop} {E : Prop} (hw : Region.wanted o (yielded ops a.tmps) = true) (f : FuncId) (args : Array Value) (hrun : (execOp a.eval o).run P w = .ok (.enter f args) w)
    {R : Ending → World → Prop} (hc : Calls P f args w R) (hR : ∀ e w', R e w' → ∃ v, e = .returned v ∧ K (a.put o.dst v) w') : if Region.wanted o (yielded ops a.tmps) = true then Oper.wp P o a w K Q else E := by
  rw [if_pos hw]
  unfold Oper.wp
  rw [hrun, Oper.upon_enter]
  refine hc.mono fun e w'' hh => ?_
  obtain ⟨v, rfl, hk⟩ := hR e w'' hh
  exact hk
theorem step_callC {P : Program} {ops : Array Oper} {o : Oper} {a : Act} {w : World} {K : Act → World → Prop} {Q : Exit → Act → World → Prop} {E : Prop} (hgd : o.guard = none) (f : FuncId) (args : Array Value) (hrun : (execOp a.eval o).run P w = .ok (.enter f args) w)
    {R : Ending → World → Prop} (hc : Calls P f args w R) (hR : ∀ e w', R e w' → ∃ v, e = .returned v ∧ K (a.put o.dst v) w') : if Region.wanted o (yielded ops a.tmps) = true then Oper.wp P o a w K Q else E := by
  have hw : Region.wanted o (yielded ops a.tmps) = true := by simp [Region.wanted, hgd]
  rw [if_pos hw]
  unfold Oper.wp
  rw [hrun, Oper.upon_enter]
  refine hc.mono fun e w'' hh => ?_
  obtain ⟨v, rfl, hk⟩ := hR e w'' hh
  exact hk
theorem own_formN {w : World} {B e size n : Nat} {v : Value} {xs : List Value} (h : w.ownsRow B e size v n xs) : ∃ A c, v = .slice A n c := by
  rcases h.2 with ⟨rfl, rfl⟩ | ⟨g, cap, cur, rfl, _⟩
  · exact ⟨_, _, rfl⟩
  · exact ⟨_, _, rfl⟩
structure SlT (P : Program) (t e : TypeId) (size bytes : Nat) : Prop where
  under : P.underlying t = some (.slice e)
  info : ∃ i z, P.info? e = some i ∧ i.zero = some z ∧ i.size = size ∧ i.bytes = bytes ∧ z.cells.size = size
  pos : 0 < size
  few : bytes ≤ 1000
theorem SlT.of {P : Program} {t e : TypeId} {size bytes : Nat} {z : Value} (hu : P.underlying t = some (.slice e)) (hi : (P.info? e).map (fun i => (i.zero, i.size, i.bytes)) = some (some z, size, bytes)) (hz : z.cells.size = size) (h0 : 0 < size) (hf : bytes ≤ 1000) : SlT P t e size bytes := by
  cases h : P.info? e with
  | none => rw [h] at hi; cases hi
  | some i =>
    rw [h] at hi
    simp only [Option.map_some, Option.some.injEq, Prod.mk.injEq] at hi
    exact ⟨hu, ⟨i, z, h, hi.1, hi.2.1, hi.2.2, hz⟩, h0, hf⟩
theorem TBy : SlT Tryz.prog 23 5 1 1 := SlT.of Tryz.underlying23 (z := .int .u8 0) (by kernel_rfl) rfl (by omega) (by omega)
theorem own_le {w : World} {B B' e size n : Nat} {v : Value} {xs : List Value} (h : w.ownsRow B e size v n xs) (hB : B' ≤ B) : w.ownsRow B' e size v n xs := ⟨h.1, h.2.imp id fun ⟨g, cap, cur, e1, e2, r⟩ => ⟨g, cap, cur, e1, Nat.le_trans hB e2, r⟩⟩
theorem own_formS {w : World} {B e size n : Nat} {v : Value} {xs : List Value} (h : w.ownsRow B e size v n xs) : ∃ A c, v = .slice A n c := own_formN h
section
variable {P : Program} {w : World}
theorem step_push {t e : TypeId} {size bytes : Nat} (T : SlT P t e size bytes) {ops : Array Oper} {o : Oper} {a : Act} {K : Act → World → Prop} {Q : Exit → Act → World → Prop} {E : Prop} (hgd : o.guard = none) {s x : Operand}
    (ho : o.op = .call { callee := .builtin .append, args := #[s, x], argTypes := #[t, t] })
    (base : Nat) {As : Option Addr} {n cs : Nat} {xs : List Value} (hs : a.eval s = .slice As n cs) (hown : w.ownsRow base e size (.slice As n cs) n xs)
    {B : Nat} {A : Option Addr} {m c : Nat} {news : List Value} (hx : a.eval x = .slice A m c) (hr : Reads w B size A m news) (h1 : ∀ u ∈ news, u.oneCell' = true)
    (hn : n + m ≤ 1000000) (hbase : base ≤ w.heap.size) {k : Nat} (hk : n + m = k) {ys : List Value} (hy : xs ++ news = ys)
    (h : ∀ A' c' w', w'.ownsRow base e size (.slice A' k c') k ys → w.grownBy w' (.slice As n cs : Value).ownBlock → ((.slice A' k c' : Value).ownBlock = (.slice As n cs : Value).ownBlock ∨ (.slice A' k c' : Value).ownBlock = some w.heap.size) → K (a.put o.dst (.slice A' k c')) w') :
    if Region.wanted o (yielded ops a.tmps) = true then Oper.wp P o a w K Q else E := by
  obtain ⟨i, z, i1, i2, i3, i4, i5⟩ := T.info
  subst hk hy
  refine step_append_any w hgd s x t ho base e i z size bytes T.under i1 i2 i3 i4 i5 T.pos _ n xs hs hown B A m c news hx hr h1 (by simp only [maxLen]; omega) (Nat.le_trans (Nat.mul_le_mul hn T.few) (by omega)) hbase (fun v' w' a1 a2 a3 => ?_)
  obtain ⟨A', c', rfl⟩ := own_formN a1
  exact h A' c' w' a1 a2 a3
theorem list_push {t e : TypeId} {size bytes : Nat} (T : SlT P t e size bytes) {ops : Array Oper} {rest : List Oper} {o : Oper} {a : Act} {Q : Exit → Act → World → Prop} (hgd : o.guard = none) {s x : Operand}
    (ho : o.op = .call { callee := .builtin .append, args := #[s, x], argTypes := #[t, t] })
    (base : Nat) {As : Option Addr} {n cs : Nat} {xs : List Value} (hs : a.eval s = .slice As n cs) (hown : w.ownsRow base e size (.slice As n cs) n xs)
    {B : Nat} {A : Option Addr} {m c : Nat} {news : List Value} (hx : a.eval x = .slice A m c) (hr : Reads w B size A m news) (h1 : ∀ u ∈ news, u.oneCell' = true)
    (hn : n + m ≤ 1000000) (hbase : base ≤ w.heap.size) {k : Nat} (hk : n + m = k) {ys : List Value} (hy : xs ++ news = ys)
    (h : ∀ A' c' w', w'.ownsRow base e size (.slice A' k c') k ys → w.grownBy w' (.slice As n cs : Value).ownBlock → ((.slice A' k c' : Value).ownBlock = (.slice As n cs : Value).ownBlock ∨ (.slice A' k c' : Value).ownBlock = some w.heap.size) → wpList P ops Q rest (a.put o.dst (.slice A' k c')) w') : wpList P ops Q (o :: rest) a w := by
  obtain ⟨i, z, i1, i2, i3, i4, i5⟩ := T.info
  subst hk hy
  refine wpList_append_any w hgd s x t ho base e i z size bytes T.under i1 i2 i3 i4 i5 T.pos _ n xs hs hown B A m c news hx hr h1 (by simp only [maxLen]; omega) (Nat.le_trans (Nat.mul_le_mul hn T.few) (by omega)) hbase (fun v' w' a1 a2 a3 => ?_)
  obtain ⟨A', c', rfl⟩ := own_formN a1
  exact h A' c' w' a1 a2 a3
theorem own_emptyH (W : World) (e size : Nat) {H base : Nat} (hH : W.heap.size = H) (hb : base ≤ H) : (W.alloc (.cells #[] e)).ownsRow base e size (.slice (some ⟨H, 0, none⟩) 0 0) 0 [] := by
  subst hH
  exact ⟨by simp, .inr ⟨_, 0, #[], rfl, hb, heap_alloc_new W _, Nat.le_refl _, by simp [maxLen], by simp, by simp⟩⟩
theorem reads_blk {g : Nat} {t : TypeId} {cs : Array Value} {size : Nat} (h : Blk w g t cs) (hs : cs.size = size) : Reads w w.heap.size size (some ⟨g, 0, none⟩) 1 cs.toList :=
  ⟨by simp [hs], fun _ => ⟨_, rfl, h.lt, fun j x hx => by
    have e : (⟨g, 0, none⟩ : Addr).add j = ⟨g, j, none⟩ := by unfold Addr.add; split <;> simp_all
    rw [e, h.cell]
    simpa using hx⟩⟩
/-- A block that is known, all else below as it was. -/
def KS (w : World) (g : Nat) (t : TypeId) (cs : Array Value) (W : World) : Prop := Blk W g t cs ∧ Below w.heap.size w W
section
variable {w W W' : World} {g : Nat} {t : TypeId} {cs : Array Value}
theorem KS.drew (h : KS w g t cs W) : KS w g t cs W.drew := ⟨h.1, h.2.drew⟩
theorem KS.drewN (h : KS w g t cs W) (n : Nat) : KS w g t cs (W.drewN n) := ⟨h.1, ⟨h.2.os, h.2.tape, h.2.output, h.2.size, h.2.block⟩⟩
theorem KS.alloc (h : KS w g t cs W) (o : Obj) : KS w g t cs (W.alloc o) := ⟨h.1.alloc o, h.2.alloc h.2.size o⟩
theorem KS.grown {row : Option Nat} (h : KS w g t cs W) (hg : W.grownBy W' row) (hr : ∀ k, row = some k → w.heap.size ≤ k ∧ k ≠ g) : KS w g t cs W' :=
  ⟨(hg.block g h.1.lt (fun e => (hr g e.symm).2 rfl)).trans h.1, h.2.grown hg h.2.size (fun k e => (hr k e).1)⟩
theorem KS.new (w : World) (t : TypeId) (cs : Array Value) : KS w w.heap.size t cs (w.alloc (.cells cs t)) := ⟨Blk.new w t cs, (Below.refl _ w).alloc (Nat.le_refl _) _⟩
theorem KS.lt (h : KS w g t cs W) : g < W.heap.size := h.1.lt
end
theorem blk_newH (W : World) (t : TypeId) (cs : Array Value) {H : Nat} (hH : W.heap.size = H) : Blk (W.alloc (.cells cs t)) H t cs := by subst hH; exact Blk.new W t cs
theorem blk_drew {W : World} {g : Nat} {t : TypeId} {cs : Array Value} (h : Blk W g t cs) : Blk W.drew g t cs := h
theorem blk_alloc {W : World} {g : Nat} {t : TypeId} {cs : Array Value} {o : Obj} (h : Blk W g t cs) : Blk (W.alloc o) g t cs := h.alloc o
theorem blk_grown {W W' : World} {g : Nat} {t : TypeId} {cs : Array Value} {row : Option Nat} (h : Blk W g t cs) (hg : W.grownBy W' row) (hr : row ≠ some g) : Blk W' g t cs := (hg.block g h.lt (fun e => hr e.symm)).trans h
end
def bl (l : List UInt8) : List Value := l.map fun c => .int .u8 (c.toNat : Int)
theorem bl_len (l : List UInt8) : (bl l).length = l.length := by simp [bl]
theorem bl_append (l m : List UInt8) : bl (l ++ m) = bl l ++ bl m := by simp [bl]
theorem bl_one (l : List UInt8) : ∀ u ∈ bl l, u.oneCell' = true := by
  intro u hu
  obtain ⟨c, _, rfl⟩ := List.mem_map.1 hu
  rfl
theorem u8_hi (m : Nat) : (UInt8.ofNat (m % 128 + 128)).toNat = m % 128 + 128 := u8_small (by omega)
theorem bl_hi (pre : List UInt8) (m : Nat) : bl pre ++ [Value.int .u8 ((m : Int) % 128 + 128)] = bl (pre ++ [UInt8.ofNat (m % 128 + 128)]) := by
  rw [bl_append]
  show _ = bl pre ++ [Value.int .u8 (((UInt8.ofNat (m % 128 + 128)).toNat : Nat) : Int)]
  rw [u8_hi]
  simp
theorem bl_lo (pre : List UInt8) {m : Nat} (h : m < 128) : bl pre ++ [Value.int .u8 (m : Int)] = bl (pre ++ [UInt8.ofNat m]) := by
  rw [bl_append]
  show _ = bl pre ++ [Value.int .u8 (((UInt8.ofNat m).toNat : Nat) : Int)]
  rw [u8_small (by omega)]
theorem reads_mono {B B' : Nat} {w : World} {A : Option Addr} {n size : Nat} {l : List Value} (h : Reads w B size A n l) (hB : B ≤ B') : Reads w B' size A n l :=
  ⟨h.1, fun h0 => by
    obtain ⟨a, e, h1, h2⟩ := h.2 h0
    exact ⟨a, e, Nat.lt_of_lt_of_le h1 hB, h2⟩⟩
theorem reads_take {B : Nat} {w : World} {A : Option Addr} {b : List UInt8} {n : Nat} (h : Reads w B 1 A b.length (bl b)) (hn : n ≤ b.length) : Reads w B 1 A n (bl (b.take n)) := by
  refine ⟨by rw [bl_len, List.length_take]; omega, fun h0 => ?_⟩
  obtain ⟨a, e, h1, h2⟩ := h.2 (by omega)
  refine ⟨a, e, h1, fun j x hj => h2 j x ?_⟩
  unfold bl at hj ⊢
  rw [List.getElem?_map] at hj ⊢
  rw [List.getElem?_take] at hj
  split at hj
  · exact hj
  · simp at hj
theorem reads_cell {B : Nat} {a : Addr} {b : List UInt8} {w : World} (hr : Reads w B 1 (some a) b.length (bl b)) (j : Nat) (hj : j < b.length) : w.cell? (a.add j) = some (.int .u8 ((b.getD j 0).toNat : Nat)) := by
  obtain ⟨a', e', _, h2⟩ := hr.2 (by omega)
  cases e'
  exact h2 j (.int .u8 ((b.getD j 0).toNat : Int)) (by unfold bl; rw [List.getElem?_map, List.getElem?_eq_getElem hj, List.getD_eq_getElem?_getD, List.getElem?_eq_getElem hj]; rfl)
theorem reads_low {B : Nat} {a : Addr} {b : List UInt8} {w : World} (hr : Reads w B 1 (some a) b.length (bl b)) (hj : 0 < b.length) : a.block < w.heap.size := by
  have := World.block_lt_of_cell? w _ (reads_cell hr 0 hj)
  unfold Addr.add at this
  split at this <;> exact this
end Go.Proofs.YtenfkghoolegfaaGreatDoor
set_option linter.unusedVariables false
namespace Go.Proofs.YtenfkghoolegfaaGreatDoor
open Go.RowKit
theorem list_push8 {P : Program} {w : World} {t e : TypeId} {size bytes : Nat} (T : SlT P t e size bytes) {ops : Array Oper} {rest : List Oper} {o : Oper} {a : Act} {Q : Exit → Act → World → Prop} (hgd : o.guard = none) {s x : Operand}
    (ho : o.op = .call { callee := .builtin .append, args := #[s, x], argTypes := #[t, t] })
    (base : Nat) {As : Option Addr} {n cs : Nat} {xs : List Value} (hs : a.eval s = .slice As n cs) (hown : w.ownsRow base e size (.slice As n cs) n xs)
    {B : Nat} {A : Option Addr} {m c : Nat} {news : List Value} (hx : a.eval x = .slice A m c) (hr : Reads w B size A m news) (h1 : ∀ u ∈ news, u.oneCell' = true)
    (hn : n + m ≤ 100000000) (hbase : base ≤ w.heap.size) {k : Nat} (hk : n + m = k) {ys : List Value} (hy : xs ++ news = ys)
    (h : ∀ A' c' w', w'.ownsRow base e size (.slice A' k c') k ys → w.grownBy w' (.slice As n cs : Value).ownBlock → ((.slice A' k c' : Value).ownBlock = (.slice As n cs : Value).ownBlock ∨ (.slice A' k c' : Value).ownBlock = some w.heap.size) → wpList P ops Q rest (a.put o.dst (.slice A' k c')) w') : wpList P ops Q (o :: rest) a w := by
  obtain ⟨i, z, i1, i2, i3, i4, i5⟩ := T.info
  subst hk hy
  refine wpList_append_any w hgd s x t ho base e i z size bytes T.under i1 i2 i3 i4 i5 T.pos _ n xs hs hown B A m c news hx hr h1 (by simp only [maxLen]; omega) (Nat.le_trans (Nat.mul_le_mul hn T.few) (by omega)) hbase (fun v' w' a1 a2 a3 => ?_)
  obtain ⟨A', c', rfl⟩ := own_formN a1
  exact h A' c' w' a1 a2 a3
set_option maxRecDepth 100000 in
theorem SGrow_nil (n : Nat) (hn : n ≤ 4000000) (w : World) :
    Calls Tryz.prog 211 #[.slice none 0 0, .int .i64 n] w fun e w' => ∃ v, e = .returned v ∧ w'.ownsRow w.heap.size 5 1 v 0 [] ∧ Below w.heap.size w w' := by
  have h1 : ¬ ((n : Int) < 0) := by omega
  by_cases h0 : n = 0
  · subst h0
    go_enter Tryz.func211, Tryz.ntmps211
    go_wp2
    go_ret
    exact ⟨_, rfl, World.ownsRow_nil _ _ _ _, Below.refl _ _⟩
  · obtain ⟨i, z, i1, i2, i3, i4, i5⟩ := TBy.info
    have hb : i.bytes = 1 := i4
    have hrz : ∀ ty, (Builtin.append_ #[23, 3] ty #[.slice none 0 0, .int .i64 (n : Int)]).run Tryz.prog w =
        .ok (.slice (some ⟨w.heap.size, 0, none⟩) n (grownCap w n 0 5)) (w.drew.alloc (.cells (([] : List Value).toArray ++ Builtin.zeroCells z.cells n ++ Builtin.zeroCells z.cells (grownCap w n 0 5 - n)) 5)) := fun ty => by
      have h := Lib.run_append_grow_zeros w 23 3 ty 5 i z .i64 .i64 Tryz.underlying23 Tryz.underlying3 i1 i2 none 0 0 [] (run_firstCells_none w.drew i.size 0 0 0) n (by omega) (by rw [i3]; omega) (by omega) (by omega)
        (by rw [hb]; omega) (growslice_fits (by omega) (by rw [hb]; omega))
      rw [Nat.zero_add] at h
      exact h
    have hGn : n ≤ grownCap w n 0 5 := grownCap_ge w _ _ _
    obtain ⟨G, hG⟩ : ∃ G, G = grownCap w n 0 5 := ⟨_, rfl⟩
    rw [← hG] at hrz hGn
    have hG63 : G ≤ 9223372036854775807 := by
      have := grownCap_le_maxLen w n 0 5 (by unfold maxLen; omega)
      rw [← hG] at this
      unfold maxLen at this
      omega
    obtain ⟨zc, hze⟩ : ∃ zc, z.cells = zc := ⟨_, rfl⟩
    have hzc : zc.size = 1 := by rw [← hze]; exact i5
    rw [hze] at hrz
    clear hG i1 i2 i3 i4 i5 hb hze
    go_enter Tryz.func211, Tryz.ntmps211
    go_wp2_with (at_builtin; refine Lib.wpList_append_run _ rfl _ _ _ _ rfl _ _ rfl rfl _ _ (hrz _) ?_)
    all_goals
      go_ret
      refine ⟨_, rfl, ⟨rfl, .inr ⟨w.heap.size, G, _, rfl, Nat.le_refl _, heap_alloc_new w.drew _, ?_, ?_, ?_, ?_⟩⟩, ((Below.refl _ w).drew).alloc (Nat.le_refl _) _⟩
      all_goals first
        | omega
        | (simp only [maxLen]; omega)
        | (simp [Builtin.zeroCells, hzc]; done)
        | (simp [Builtin.zeroCells, hzc]; omega)
/-- A slice, with what it reads as. -/
structure Pt where
  A : Option Addr
  c : Nat
  b : List UInt8
def Pt.val (p : Pt) : Value := .slice p.A p.b.length p.c
def cat (ps : List Pt) : List UInt8 := ps.flatMap (·.b)
theorem cat_take_succ {ps : List Pt} {k : Nat} {p : Pt} (h : ps[k]? = some p) : cat (ps.take (k + 1)) = cat (ps.take k) ++ p.b := by
  unfold cat
  rw [List.take_add_one, h]
  simp
theorem cat_take_le (ps : List Pt) (k : Nat) : (cat (ps.take k)).length ≤ (cat ps).length := by
  have h : cat ps = cat (ps.take k) ++ cat (ps.drop k) := by
    unfold cat
    rw [← List.flatMap_append, List.take_append_drop]
  rw [h, List.length_append]
  omega
set_option maxHeartbeats 2000000 in
set_option maxRecDepth 100000 in
theorem Concat_any {B : Nat} (g cap : Nat) (ps : List Pt) (w : World) (hB : B ≤ w.heap.size) (hg : ∀ k p, ps[k]? = some p → w.cell? ⟨g, k, none⟩ = some p.val) (hr : ∀ p ∈ ps, Reads w B 1 p.A p.b.length (bl p.b)) (hs : (cat ps).length ≤ 3000000) (hl : ps.length ≤ 100) :
    Calls Tryz.prog 182 #[.slice (some ⟨g, 0, none⟩) ps.length cap] w fun e w' => ∃ v, e = .returned v ∧ w'.ownsRow w.heap.size 5 1 v (cat ps).length (bl (cat ps)) ∧ Below w.heap.size w w' := by
  have HP := Lib.hid (And.intro hg hr)
  clear hg hr
  go_enter Tryz.func182, Tryz.ntmps182
  go_wp2
  go_loopw [3, 5, 11] (fun n _ i wr => wr = w ∧ ∃ k : Nat, k ≤ ps.length ∧ n = .int .i64 ((cat (ps.take k)).length : Nat) ∧ i = .int .i64 k) (fun _ _ i _ => ps.length - (intOf i).toNat)
  case atStart => exact ⟨rfl, 0, Nat.zero_le _, rfl, rfl⟩
  case round =>
    obtain ⟨rfl, k, hk, rfl, rfl⟩ := hrel
    obtain ⟨w0, rfl⟩ : ∃ w0, w0 = wr := ⟨wr, rfl⟩
    have hle := cat_take_le ps k
    by_cases hlt : k < ps.length
    · have d1 : decide (k < ps.length) = true := by simpa using hlt
      obtain ⟨p, hp⟩ : ∃ p, ps[k]? = some p := ⟨_, List.getElem?_eq_getElem hlt⟩
      have hc := HP.out.1 k p hp
      have hle2 := cat_take_le ps (k + 1)
      have hsc := cat_take_succ hp
      have i0 : (0 : Int) ≤ (k : Int) := by omega
      have i1 : (k : Int) < (ps.length : Int) := by omega
      rw [hsc, List.length_append] at hle2
      obtain ⟨m, hm⟩ : ∃ m, (cat (ps.take k)).length = m := ⟨_, rfl⟩
      rw [hm] at hle hle2 ⊢
      have HS := Lib.hid (And.intro hsc hm)
      clear hsc hm
      unfold Pt.val at hc
      have hz : ¬ ((m : Int) + (p.b.length : Int) < 0) := by omega
      go_wp2
      go_roundw
      case rel => exact ⟨trivial, k + 1, by omega, by rw [HS.out.1, List.length_append, HS.out.2]; go_num, by go_num⟩
      case measure => simp [intOf]; omega
    · have d1 : decide (k < ps.length) = false := by simpa using hlt
      obtain rfl : k = ps.length := by omega
      rw [List.take_length] at hle ⊢
      have hG := SGrow_nil (cat ps).length (by omega) w0
      go_wp2_with (go_at_call 211; refine hG.mono ?_; rintro e w1 ⟨v, rfl, ho, hb⟩; obtain ⟨A1, c1, rfl⟩ := own_formS ho)
      clear hG
      go_loopw [6, 8, 27] (fun out _ i w2 => Below w0.heap.size w0 w2 ∧ ∃ (k : Nat) (A : Option Addr) (c : Nat), k ≤ ps.length ∧ out = .slice A (cat (ps.take k)).length c ∧ w2.ownsRow w0.heap.size 5 1 out (cat (ps.take k)).length (bl (cat (ps.take k))) ∧ i = .int .i64 k) (fun _ _ i _ => ps.length - (intOf i).toNat)
      case atStart => exact ⟨hb, 0, A1, c1, Nat.zero_le _, rfl, ho, rfl⟩
      case round =>
        clear ho hb
        obtain ⟨hb, k, A, c, hk, rfl, ho, rfl⟩ := hrel
        have hle := cat_take_le ps k
        obtain ⟨wo, rfl⟩ : ∃ wo, wo = wr := ⟨wr, rfl⟩
        by_cases hlt : k < ps.length
        · have d1 : decide (k < ps.length) = true := by simpa using hlt
          obtain ⟨p, hp⟩ : ∃ p, ps[k]? = some p := ⟨_, List.getElem?_eq_getElem hlt⟩
          have hc := HP.out.1 k p hp
          have hgl : g < w0.heap.size := World.block_lt_of_cell? w0 _ hc
          have hc2 : wo.cell? ⟨g, k, none⟩ = some p.val := (hb.cell (p := ⟨g, k, none⟩) hgl).trans hc
          have hrd := (HP.out.2 p (List.mem_of_getElem? hp)).below (hb.mono hB)
          have hle2 := cat_take_le ps (k + 1)
          have hsc := cat_take_succ hp
          have i0 : (0 : Int) ≤ (k : Int) := by omega
          have i1 : (k : Int) < (ps.length : Int) := by omega
          rw [hsc, List.length_append] at hle2
          have HS := Lib.hid hsc
          clear hsc hc hp
          unfold Pt.val at hc2
          go_wp2_with (at_builtin; refine list_push8 TBy rfl rfl w0.heap.size rfl ho rfl hrd (bl_one _) (by omega) hb.size rfl (ys := bl (cat (ps.take k) ++ p.b)) (by rw [bl_append]) ?_; intro A2 c2 w2 ho2 hg2 hl2)
          all_goals
            go_roundw
            case rel => exact ⟨hb.grown hg2 hb.size (fun k e => (ho.lt k e).1), k + 1, A2, c2, by omega, by rw [HS.out, List.length_append], by rw [HS.out, List.length_append]; exact ho2, by go_num⟩
            case measure => simp [intOf]; omega
        · have d1 : decide (k < ps.length) = false := by simpa using hlt
          obtain rfl : k = ps.length := by omega
          rw [List.take_length] at ho ⊢
          go_wp2
          go_ret
          exact ⟨_, rfl, ho, hb⟩
theorem by_info : ∃ i, Tryz.prog.info? 5 = some i ∧ i.zero = some (.int .u8 0) ∧ i.size = 1 ∧ i.bytes = 1 := by
  have hi : (Tryz.prog.info? 5).map (fun i => (i.zero, i.size, i.bytes)) = some (some (.int .u8 0), 1, 1) := by kernel_rfl
  cases h : Tryz.prog.info? 5 with
  | none => rw [h] at hi; cases hi
  | some i =>
    rw [h] at hi
    simp only [Option.map_some, Option.some.injEq, Prod.mk.injEq] at hi
    exact ⟨i, rfl, hi.1, hi.2.1, hi.2.2⟩
set_option maxRecDepth 100000 in
theorem BClone_some {B n : Nat} (a : Addr) (c : Nat) (l : List Value) (h1 : ∀ u ∈ l, u.oneCell' = true) (w : World) (hr : Reads w B 1 (some a) n l) (hB : B ≤ w.heap.size) (hl : n ≤ 4000000) :
    Calls Tryz.prog 68 #[.slice (some a) n c] w fun e w' => ∃ A' c', e = .returned (.slice A' n c') ∧ w'.ownsRow w.heap.size 5 1 (.slice A' n c') n l ∧ Below w.heap.size w w' := by
  have hnil : ∀ W : World, (binOp .eql 23 (.slice (some a) n c) (.slice none 0 0)).run Tryz.prog W = .ok (.bool false) W := fun W => (by first | exact Lib.run_eql_slice_nil W 23 5 _ _ _ _ _ Tryz.underlying23 | exact Lib.run_eql_slice_nil W 23 5 _ _ _ _ Tryz.underlying23)
  go_enter Tryz.func68, Tryz.ntmps68
  go_wp2_with (at_builtin; refine list_push8 TBy rfl rfl w.heap.size rfl (own_emptyH _ _ _ rfl (Nat.le_refl _)) rfl (hr.alloc hB _) h1 (by omega) (by simp) (Nat.zero_add _) (List.nil_append _) ?_; intro A1 c1 w1 hown1 hg1 hat1)
  clear hnil
  go_ret
  exact ⟨A1, c1, rfl, hown1, ((Below.refl _ w).alloc (Nat.le_refl _) _).grown hg1 (by simp) (fun k e => by cases e; exact Nat.le_refl _)⟩
end Go.Proofs.YtenfkghoolegfaaGreatDoor
set_option linter.unusedVariables false
namespace Go.Proofs.YtenfkghoolegfaaGreatDoor
open Go.RowKit
theorem Blk.below {B : Nat} {w w' : World} {g : Nat} {t : TypeId} {cs : Array Value} (h : Blk w g t cs) (hb : Below B w w') (hg : g < B) : Blk w' g t cs := (hb.block g hg).trans h
theorem Blk.grown {w w' : World} {g : Nat} {t : TypeId} {cs : Array Value} {row : Option Nat} (h : Blk w g t cs) (hb : w.grownBy w' row) (hg : some g ≠ row) : Blk w' g t cs := (hb.block g h.lt hg).trans h
theorem fixN_head : ∀ (k n : Nat), fixN (k + 1) n = UInt8.ofNat (n / 256 ^ k % 256) :: fixN k n
  | 0, n => by simp [fixN]
  | k + 1, n => by
    rw [fixN, fixN_head k (n / 256), fixN, List.cons_append, Nat.div_div_eq_div_mul, Nat.pow_succ, Nat.mul_comm 256]
theorem bl_zero (n : Nat) : bl (List.replicate n 0) = List.replicate n (.int .u8 0) := by simp [bl]
/-- The bytes of a number from the last one on, k of them. -/
def fixS (s k n : Nat) : List UInt8 := List.replicate (s - k) 0 ++ fixN k n
theorem fixS_len {s k n : Nat} (h : k ≤ s) : (fixS s k n).length = s := by unfold fixS; rw [List.length_append, List.length_replicate, fixN_len]; omega
theorem fixS_set {s k n : Nat} (h : k < s) : (fixS s k n).set (s - 1 - k) (UInt8.ofNat (n / 256 ^ k % 256)) = fixS s (k + 1) n := by
  unfold fixS
  rw [fixN_head, show s - k = (s - (k + 1)) + 1 by omega, List.replicate_succ', List.append_assoc, List.set_append_right _ _ (by rw [List.length_replicate]; omega), List.length_replicate, show s - 1 - k - (s - (k + 1)) = 0 by omega]
  rfl
theorem bl_set (l : List UInt8) (i : Nat) (c : UInt8) : (bl l).toArray.setIfInBounds i (.int .u8 (c.toNat : Int)) = (bl (l.set i c)).toArray := by
  unfold bl
  simp [List.map_set]
theorem made1 (n : Nat) (z : Value) : madeCells #[z] n = (List.replicate n z).toArray := by
  unfold madeCells
  refine Array.ext (by simp) fun i h1 h2 => ?_
  simp [Nat.mod_one]
theorem make_bytes (s : Nat) (hs : s ≤ 1000000) (w : World) : (Instr.makeSlice 23 (.int .i64 (s : Int)) (.int .i64 (s : Int))).run Tryz.prog w = .ok (.slice (some ⟨w.heap.size, 0, none⟩) s s) (w.alloc (.cells (bl (List.replicate s 0)).toArray 5)) := by
  obtain ⟨i, z, h1, h2, h3, h4, h5⟩ := TBy.info
  have hz : z = .int .u8 0 := by
    have hi : (Tryz.prog.info? 5).map (fun i => i.zero) = some (some (.int .u8 0)) := by kernel_rfl
    rw [h1] at hi
    simp only [Option.map_some, Option.some.injEq] at hi
    rw [h2] at hi
    exact Option.some.inj hi
  subst hz
  have h := run_make (P := Tryz.prog) w 23 5 i (.int .u8 0) TBy.under h1 h2 .i64 .i64 (s : Int) (s : Int) (by omega) (by omega) (by rw [h4]; omega) (by omega)
  simp only [Int.toNat_natCast] at h
  rw [h, h3, bl_zero, Nat.mul_one, show Value.cells (.int .u8 0) = #[.int .u8 0] from rfl, made1]
set_option maxHeartbeats 4000000 in
set_option maxRecDepth 100000 in
theorem Fixed_any (n s : Nat) (hn : n < 18446744073709551616) (h1 : 1 ≤ s) (h8 : s ≤ 8) (w : World) :
    Calls Tryz.prog 144 #[.int .u64 n, .int .i64 s] w fun e w' => ∃ g, e = .returned (.slice (some ⟨g, 0, none⟩) s s) ∧ w.heap.size ≤ g ∧ Blk w' g 5 (bl (fixN s n)).toArray ∧ Below w.heap.size w w' := by
  have hm := make_bytes s (by omega)
  have b1 : decide ((s : Int) < 1) = false := decide_eq_false (by omega)
  have b8 : decide (8 < (s : Int)) = false := decide_eq_false (by omega)
  go_enter Tryz.func144, Tryz.ntmps144
  go_wp2
  go_loopw [17] (fun i wr => ∃ k : Nat, k ≤ s ∧ i = .int .i64 k ∧ Blk wr w.heap.size 5 (bl (fixS s k n)).toArray ∧ Below w.heap.size w wr) (fun i _ => s - (intOf i).toNat)
  case atStart => exact ⟨0, Nat.zero_le _, rfl, by rw [show fixS s 0 n = List.replicate s 0 by unfold fixS; simp [fixN]]; exact Blk.new _ _ _, (Below.refl _ _).alloc (Nat.le_refl _) _⟩
  case round =>
    obtain ⟨k, hk, rfl, hB, hb⟩ := hrel
    have HB := Lib.hid hB
    by_cases hlt : k < s
    · have d1 : decide (k < s) = true := decide_eq_true hlt
      obtain ⟨y, hc⟩ : ∃ y, wr.cell? ⟨w.heap.size, s - 1 - k, none⟩ = some y := by
        rw [hB.cell]
        exact ⟨_, Array.getElem?_eq_getElem (by simp [bl_len, fixS_len hk]; omega)⟩
      have hf : wr.frozen? ⟨w.heap.size, s - 1 - k, none⟩ = false := hB.frozen _
      clear hB
      go_wp2
      go_roundw
      case rel =>
        refine ⟨k + 1, by omega, by go_num, ?_, hb.setCell (p := ⟨w.heap.size, s - 1 - k, none⟩) (Nat.le_refl _) _⟩
        have h := HB.out.set_ (s - 1 - k) (.int .u8 ((n : Int) / 2 ^ (8 * k) % 256))
        have e : ((n : Int) / 2 ^ (8 * k) % 256) = ((UInt8.ofNat (n / 256 ^ k % 256)).toNat : Int) := by
          rw [u8_of (by omega), show (256 : Nat) ^ k = 2 ^ (8 * k) from (Nat.pow_mul 2 8 k).symm]
          simp
        rw [e, bl_set, fixS_set hlt] at h
        rw [e]
        exact h
      case measure => simp [intOf]; omega
    · have d1 : decide (k < s) = false := decide_eq_false hlt
      obtain rfl : k = s := by omega
      clear hB
      go_wp2
      go_ret
      have h := HB.out
      rw [show fixS k k n = fixN k n by unfold fixS; simp] at h
      exact ⟨_, rfl, Nat.le_refl _, h, hb⟩
theorem numN_low (b : List UInt8) (k : Nat) (h8 : b.length ≤ 8) (hk : k < b.length) : numN (b.take k) < 72057594037927936 := by
  have := numN_lt (b.take k)
  refine Nat.lt_of_lt_of_le this ?_
  rw [List.length_take, show min k b.length = k by omega]
  exact Nat.le_trans (Nat.pow_le_pow_right (by decide) (show k ≤ 7 by omega)) (by decide)
theorem numN_64 (b : List UInt8) (h8 : b.length ≤ 8) : numN b < 18446744073709551616 :=
  Nat.lt_of_lt_of_le (numN_lt b) (Nat.le_trans (Nat.pow_le_pow_right (by decide) h8) (by decide))
theorem or_byte (m c : Nat) (hm : m < 72057594037927936) (hc : c < 256) : bits .or .u64 ((m : Int) * 256) (c : Int) = ((m * 256 + c : Nat) : Int) := by
  have h := Nat.shiftLeft_add_eq_or_of_lt (i := 8) (show c < 2 ^ 8 from hc) m
  rw [Nat.shiftLeft_eq] at h
  have h2 := u64_or ((m * 256 : Nat) : Int) (c : Int) (by omega) (by omega) (by omega) (by omega)
  simp only [Int.toNat_natCast] at h2
  rw [show ((m : Int) * 256) = ((m * 256 : Nat) : Int) by omega, h2]
  congr 1
  exact h.symm
set_option maxHeartbeats 4000000 in
set_option maxRecDepth 100000 in
theorem Number_any {B : Nat} (A : Option Addr) (c : Nat) (b : List UInt8) (w : World) (hr : Reads w B 1 A b.length (bl b)) (h8 : b.length ≤ 8) :
    Calls Tryz.prog 113 #[.slice A b.length c] w fun e w' => e = .returned (.int .u64 (numN b)) ∧ w = w' := by
  have b8 : decide (8 < (b.length : Int)) = false := decide_eq_false (by omega)
  have HR := Lib.hid hr
  clear hr
  go_enter Tryz.func113, Tryz.ntmps113
  go_wp2
  go_loop [2, 10] (fun x i => ∃ k : Nat, k ≤ b.length ∧ i = .int .i64 k ∧ x = .int .u64 (numN (b.take k))) (fun _ i => b.length - (intOf i).toNat)
  case atStart => exact ⟨0, Nat.zero_le _, rfl, rfl⟩
  case round =>
    obtain ⟨k, hk, rfl, rfl⟩ := hrel
    by_cases hlt : k < b.length
    · have d1 : decide (k < b.length) = true := decide_eq_true hlt
      obtain ⟨a, rfl, _, _⟩ := HR.out.2 (by omega)
      have hc := reads_cell HR.out k hlt
      have hm := numN_low b k h8 hlt
      have HS := Lib.hid (numN_take_succ hlt)
      have hg : (b.getD k 0) = b[k] := by rw [List.getD_eq_getElem?_getD, List.getElem?_eq_getElem hlt]; rfl
      rw [hg] at hc
      obtain ⟨m, HM⟩ : ∃ m, Hid (numN (b.take k) = m) := ⟨_, Lib.hid rfl⟩
      rw [HM.out] at hm ⊢
      obtain ⟨y, HY⟩ : ∃ y, Hid (b[k].toNat = y) := ⟨_, Lib.hid rfl⟩
      rw [HY.out] at hc
      have hy : y < 256 := by rw [← HY.out]; exact b[k].toNat_lt
      have ho := or_byte m y hm hy
      clear hg
      go_wp2
      go_round
      case rel => exact ⟨k + 1, by omega, by go_num, by rw [HS.out, HM.out, HY.out]; go_num⟩
      case measure => simp [intOf]; omega
    · have d1 : decide (k < b.length) = false := decide_eq_false hlt
      obtain rfl : k = b.length := by omega
      go_wp2
      go_ret
      exact ⟨rfl, rfl⟩
end Go.Proofs.YtenfkghoolegfaaGreatDoor
set_option linter.unusedVariables false
namespace Go.Proofs.YtenfkghoolegfaaGreatDoor.Cr
open Go.RowKit Go.Extern Go.Lib
theorem ret_intC {k : IntKind} {a b : Int} (h : a = b) : Ending.returned (.int k a) = .returned (.int k b) := by rw [h]
theorem xor_nat {x y : Nat} (hx : x < 4294967296) (hy : y < 4294967296) : bits .xor .u32 (x : Int) (y : Int) = ((Nat.xor x y : Nat) : Int) := by
  rw [u32_xor _ _ (by omega) (by omega) (by omega) (by omega)]
  simp only [Int.toNat_natCast]
  rfl
theorem and_nat {x y : Nat} (hx : x < 4294967296) (hy : y < 4294967296) : bits .and .u32 (x : Int) (y : Int) = ((Nat.land x y : Nat) : Int) := by
  rw [u32_and _ _ (by omega) (by omega) (by omega) (by omega)]
  simp only [Int.toNat_natCast]
  rfl
theorem shr4 (x : Nat) : ((Nat.shiftRight x 4 : Nat) : Int) = (x : Int) / 16 := by
  have : Nat.shiftRight x 4 = x / 16 := Nat.shiftRight_eq_div_pow x 4
  rw [this]; simp
theorem add_blockC (a : Addr) (n : Nat) : (a.add n).block = a.block := by unfold Addr.add; split <;> rfl

theorem over_any (tb : Nat → Nat) (htb : ∀ i, tb i < 4294967296) (cs : Array Value) (hcs : ∀ i, i < 16 → cs[i]? = some (.int .u32 (tb i : Nat))) (c : Nat) (hc : c < 4294967296) (A : Option Addr) (cp : Nat) (l : List Nat) (w : World) (hl : l.length ≤ 1000000) (hb : ∀ x ∈ l, x < 256)
    (hr : 0 < l.length → ∃ ad, A = some ad ∧ ad.block < w.heap.size ∧ ∀ i, i < l.length → w.cell? (ad.add i) = some (.int .u8 (l[i]?.getD 0 : Nat))) :
    Calls Tryz.prog 200 #[.agg cs, .int .u32 (c : Nat), .slice A l.length cp] w fun e w' => e = .returned (.int .u32 (cl tb c l : Nat)) ∧ Below w.heap.size w w' := by
  have HC := Lib.hid hcs
  have HTB := Lib.hid htb
  have HBY := Lib.hid hb
  clear hcs htb hb
  go_enter Tryz.func200, Tryz.ntmps200
  go_wp2
  go_loopw [1, 11] (fun x i wr => ∃ k : Nat, k ≤ l.length ∧ i = .int .i64 k ∧ x = .int .u32 (cl tb c (l.take k) : Nat) ∧ wr.heap[w.heap.size]? = some (.cells cs 286 (0, 0)) ∧ Below w.heap.size w wr)
    (fun _ i _ => l.length - (RowKit.intOf i).toNat)
  case atStart => exact ⟨0, Nat.zero_le _, rfl, rfl, heap_alloc_new _ _, (Below.refl _ _).alloc (Nat.le_refl _) _⟩
  case round =>
    obtain ⟨k, hk, rfl, rfl, hblk, hbel⟩ := hrel
    have HT : Hid (∀ i, i < 16 → wr.cell? ⟨w.heap.size, i, none⟩ = some (.int .u32 (tb i : Nat))) := Lib.hid fun i hi => by rw [cell_of_row _ _ _ _ _ _ hblk]; exact HC.out i hi
    have HB := Lib.hid hblk
    clear hblk
    by_cases hlt : k < l.length
    · obtain ⟨ad, rfl, hB, hcl⟩ := hr (by omega)
      have hcell := (hbel.cell (p := ad.add k) (by rw [add_blockC]; exact hB)).trans (hcl k hlt)
      clear hcl
      have hy : l[k]?.getD 0 < 256 := HBY.out _ (by simp [hlt])
      have hx : cl tb c (l.take k) < 4294967296 := cl_lt HTB.out _ _ hc fun y hy => HBY.out y (List.mem_of_mem_take hy)
      have HS := Lib.hid (cl_step tb c l k hlt)
      clear hr
      generalize cl tb c (l.take k) = x at hx HS
      generalize l[k]?.getD 0 = y at hcell hy HS
      obtain ⟨z1, H1⟩ : ∃ z, Hid (z = Nat.xor x y) := ⟨_, Lib.hid rfl⟩
      have e1 : bits .xor .u32 (x : Int) (y : Int) = (z1 : Int) := by rw [H1.out]; exact xor_nat hx (by omega)
      have z1lt : z1 < 4294967296 := by rw [H1.out]; exact xor_lt hx (by omega)
      obtain ⟨i1, I1⟩ : ∃ z, Hid (z = Nat.land z1 15) := ⟨_, Lib.hid rfl⟩
      have i1lt : i1 < 16 := by rw [I1.out]; exact and_lt
      have e2 : bits .and .u32 (z1 : Int) 15 = (i1 : Int) := by rw [I1.out]; exact and_nat (y := 15) z1lt (by omega)
      have c1 := HT.out i1 i1lt
      have t1lt := HTB.out i1
      obtain ⟨t1, T1⟩ : ∃ z, Hid (z = tb i1) := ⟨_, Lib.hid rfl⟩
      rw [← T1.out] at c1 t1lt
      obtain ⟨z2, H2⟩ : ∃ z, Hid (z = Nat.xor (Nat.shiftRight z1 4) t1) := ⟨_, Lib.hid rfl⟩
      have e3 : bits .xor .u32 ((z1 : Int) / 16) (t1 : Int) = (z2 : Int) := by rw [H2.out, ← shr4]; exact xor_nat (shr4_lt z1lt) t1lt
      have z2lt : z2 < 4294967296 := by rw [H2.out]; exact xor_lt (shr4_lt z1lt) t1lt
      obtain ⟨i2, I2⟩ : ∃ z, Hid (z = Nat.land z2 15) := ⟨_, Lib.hid rfl⟩
      have i2lt : i2 < 16 := by rw [I2.out]; exact and_lt
      have e4 : bits .and .u32 (z2 : Int) 15 = (i2 : Int) := by rw [I2.out]; exact and_nat (y := 15) z2lt (by omega)
      have c2 := HT.out i2 i2lt
      have t2lt := HTB.out i2
      obtain ⟨t2, T2⟩ : ∃ z, Hid (z = tb i2) := ⟨_, Lib.hid rfl⟩
      rw [← T2.out] at c2 t2lt
      obtain ⟨z3, H3⟩ : ∃ z, Hid (z = Nat.xor (Nat.shiftRight z2 4) t2) := ⟨_, Lib.hid rfl⟩
      have e5 : bits .xor .u32 ((z2 : Int) / 16) (t2 : Int) = (z3 : Int) := by rw [H3.out, ← shr4]; exact xor_nat (shr4_lt z2lt) t2lt
      go_wp2
      go_roundw
      case rel =>
        refine ⟨k + 1, by omega, by go_num, ?_, HB.out, hbel⟩
        rw [HS.out, H3.out, T2.out, I2.out, H2.out, T1.out, I1.out, H1.out]
        rfl
      case measure => simp [RowKit.intOf]; omega
    · go_wp2
      go_ret
      have hkl : k = l.length := by omega
      exact ⟨by rw [hkl, List.take_length]; rfl, hbel⟩

def tblL : List Value := [.int .u32 (.ofNat 0), .int .u32 (.ofNat 274646895), .int .u32 (.ofNat 549293790), .int .u32 (.ofNat 820201905), .int .u32 (.ofNat 1098587580), .int .u32 (.ofNat 1361435347), .int .u32 (.ofNat 1640403810), .int .u32 (.ofNat 1905808397), .int .u32 (.ofNat 2197175160), .int .u32 (.ofNat 2460548119), .int .u32 (.ofNat 2722870694), .int .u32 (.ofNat 2987750089), .int .u32 (.ofNat 3280807620), .int .u32 (.ofNat 3553878443), .int .u32 (.ofNat 3811616794), .int .u32 (.ofNat 4084100981)]
theorem tbl_get : ∀ i, i < 16 → tblL.toArray[i]? = some (.int .u32 (tbOf i : Nat)) := by
  intro i hi
  match i, hi with
  | 0, _ => rfl
  | 1, _ => rfl
  | 2, _ => rfl
  | 3, _ => rfl
  | 4, _ => rfl
  | 5, _ => rfl
  | 6, _ => rfl
  | 7, _ => rfl
  | 8, _ => rfl
  | 9, _ => rfl
  | 10, _ => rfl
  | 11, _ => rfl
  | 12, _ => rfl
  | 13, _ => rfl
  | 14, _ => rfl
  | 15, _ => rfl
  | k + 16, h => exact absurd h (by omega)

theorem tbl_plain : Ev.closedV (.agg tblL.toArray) = true := by decide

end Go.Proofs.YtenfkghoolegfaaGreatDoor.Cr
