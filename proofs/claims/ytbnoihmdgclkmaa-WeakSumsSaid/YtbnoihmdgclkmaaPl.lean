/- Plain facts on the weak sum: no program in sight. -/
import Derived.Below
import Derived.Laws.BitsAllLaws
namespace Go.Proofs.Ytbnoihmdgclkmaa
open Go.RowKit

theorem wrap_u16 (n : Int) : IntKind.u16.wrap n = n % 65536 := by
  simp [IntKind.wrap, IntKind.bits, IntKind.signed]
theorem wrap_u32 (n : Int) : IntKind.u32.wrap n = n % 4294967296 := by
  simp [IntKind.wrap, IntKind.bits, IntKind.signed]

theorem or_halves (a b : Int) (ha : 0 ≤ a) (ha' : a ≤ 65535) (hb : 0 ≤ b) (hb' : b ≤ 65535) : bits .or .u32 (b * 65536) a = a + 65536 * b := by
  rw [u32_or _ _ (by omega) (by omega) (by omega) (by omega)]
  obtain ⟨x, rfl⟩ := Int.eq_ofNat_of_zero_le ha
  obtain ⟨y, rfl⟩ := Int.eq_ofNat_of_zero_le hb
  have h1 : ((y : Int) * 65536).toNat = 2 ^ 16 * y := by omega
  rw [h1, Int.toNat_natCast, ← Nat.two_pow_add_eq_or_of_lt (by omega)]
  omega

/-- The weighted sum: the first of so many bytes counts as often as there are bytes. -/
def bsum : List Int → Int
  | [] => 0
  | c :: l => (l.length + 1) * c + bsum l

theorem bsum_snoc (l : List Int) (x : Int) : bsum (l ++ [x]) = bsum l + l.sum + x := by
  induction l with
  | nil => simp [bsum]
  | cons c l ih =>
    simp only [List.cons_append, bsum, ih, List.length_append, List.length_cons, List.length_nil, List.sum_cons]
    push_cast
    rw [Int.add_mul ((l.length : Int) + 1) 1 c, Int.one_mul]
    omega

/-- The weighted sum from a weight down. -/
def wsum (n : Int) : List Int → Int
  | [] => 0
  | c :: l => n * c + wsum (n - 1) l

theorem wsum_snoc (l : List Int) (n x : Int) : wsum n (l ++ [x]) = wsum n l + (n - l.length) * x := by
  induction l generalizing n with
  | nil => simp [wsum]
  | cons c l ih =>
    simp only [List.cons_append, wsum, ih, List.length_cons]
    push_cast
    rw [show n - 1 - (l.length : Int) = n - (l.length + 1) from by omega]
    omega

theorem wsum_all (l : List Int) : wsum l.length l = bsum l := by
  induction l with
  | nil => rfl
  | cons c l ih =>
    simp only [wsum, bsum, List.length_cons]
    push_cast
    rw [show (l.length : Int) + 1 - 1 = l.length from by omega, ih]

/-- The sum of bytes. -/
def wk (l : List Int) : Int := l.sum % 65536 + 65536 * (bsum l % 65536)

theorem wk_bd (l : List Int) : 0 ≤ wk l ∧ wk l ≤ 4294967295 := by unfold wk; omega
theorem wk_a (l : List Int) : wk l % 65536 = l.sum % 65536 := by unfold wk; omega
theorem wk_b (l : List Int) : wk l / 65536 = bsum l % 65536 := by unfold wk; omega

/-- A sum one place on. -/
def rollA (a o i : Int) : Int := (a + i - o) % 65536
def rollB (a b o i n : Int) : Int := (b + (a + i - o) - n * o) % 65536
def rl (s o i n : Int) : Int := rollA (s % 65536) o i + 65536 * rollB (s % 65536) (s / 65536) o i n

theorem rollA_bd (a o i : Int) : 0 ≤ rollA a o i ∧ rollA a o i ≤ 65535 := by unfold rollA; omega
theorem rollB_bd (a b o i n : Int) : 0 ≤ rollB a b o i n ∧ rollB a b o i n ≤ 65535 := by unfold rollB; omega

theorem rl_wk (c x : Int) (l : List Int) : rl (wk (c :: l)) c x ((c :: l).length) = wk (l ++ [x]) := by
  unfold rl rollA rollB
  rw [wk_a, wk_b]
  unfold wk
  rw [bsum_snoc, List.sum_append]
  simp only [bsum, List.sum_cons, List.length_cons, List.sum_nil]
  push_cast
  generalize ((l.length : Int) + 1) * c = m
  generalize l.sum = t
  generalize bsum l = u
  omega

theorem mul_mod (n o : Int) : (n % 65536 * o) % 65536 = (n * o) % 65536 := by
  rw [Int.mul_emod, Int.emod_emod_of_dvd _ (Int.dvd_refl _), ← Int.mul_emod]

theorem rollA_walk (a o i : Int) : (a + (i - o)) % 65536 = rollA a o i := by unfold rollA; omega
theorem rollB_walk (a b o i n : Int) : (b + (a + (i - o) - n % 65536 * o)) % 65536 = rollB a b o i n := by
  unfold rollB
  have h := mul_mod n o
  generalize n % 65536 * o = p at *
  generalize n * o = q at *
  omega
theorem rollA_win (c x : Int) (t : List Int) : rollA ((c :: t).sum % 65536) c x = (t ++ [x]).sum % 65536 := by
  unfold rollA
  rw [List.sum_append]
  simp only [List.sum_cons, List.sum_nil]
  omega
theorem rollB_win (c x : Int) (t : List Int) : rollB ((c :: t).sum % 65536) (bsum (c :: t) % 65536) c x ((c :: t).length : Nat) = bsum (t ++ [x]) % 65536 := by
  unfold rollB
  rw [bsum_snoc]
  simp only [bsum, List.sum_cons, List.length_cons]
  push_cast
  generalize ((t.length : Int) + 1) * c = m
  omega
theorem ref_roll (s o i n : Int) : (s % 65536 + 65536 - o + i) % 65536 + 65536 * ((s / 65536 + 65536 - IntKind.u16.wrap n % 4294967296 * o % 65536 + (s % 65536 + 65536 - o + i)) % 65536) = rl s o i n := by
  unfold rl rollA rollB
  rw [wrap_u16, show n % 65536 % 4294967296 = n % 65536 from by omega, mul_mod]
  generalize n * o = q at *
  omega
end Go.Proofs.Ytbnoihmdgclkmaa
