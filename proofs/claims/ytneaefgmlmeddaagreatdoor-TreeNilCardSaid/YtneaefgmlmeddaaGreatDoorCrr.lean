/- Known functions besides: CRC-32C bit by bit. -/
import Derived.Test.YtneaefgmlmeddaaGreatDoorCrc
set_option linter.unusedVariables false
namespace Go.Proofs.YtneaefgmlmeddaaGreatDoor.Ev
open Go.RowKit Go.Extern Go.Lib
variable {ω : Nat → Value}

/-! Bit by bit. -/
def h1 (c : Nat) : Nat := Nat.xor (Nat.shiftRight c 1) (Nat.mul (Nat.land c 1) 2197175160)
def hN : Nat → Nat → Nat
  | 0, c => c
  | k + 1, c => h1 (hN k c)
def hb (c b : Nat) : Nat := hN 8 (Nat.xor c b)
def hl (c : Nat) (l : List Nat) : Nat := l.foldl hb c
theorem shr1 (x : Nat) : ((Nat.shiftRight x 1 : Nat) : Int) = (x : Int) / 2 := by
  have : Nat.shiftRight x 1 = x / 2 := Nat.shiftRight_eq_div_pow x 1
  rw [this]; simp
theorem shr1_lt {x : Nat} (hx : x < 4294967296) : Nat.shiftRight x 1 < 4294967296 := by
  have : Nat.shiftRight x 1 = x / 2 := Nat.shiftRight_eq_div_pow x 1
  omega
theorem and1 (x : Nat) : Nat.land x 1 = x % 2 := Nat.and_one_is_mod x
theorem h1_lt {x : Nat} (hx : x < 4294967296) : h1 x < 4294967296 := by
  refine xor_lt (shr1_lt hx) ?_
  rw [and1]
  show x % 2 * 2197175160 < _
  omega
theorem hN_lt {x : Nat} (hx : x < 4294967296) : ∀ k, hN k x < 4294967296
  | 0 => hx
  | k + 1 => h1_lt (hN_lt hx k)

set_option maxHeartbeats 1000000 in
theorem step_any (c b : Nat) (hc : c < 4294967296) (hby : b < 256) (w : World) :
    Calls Tryz.prog 280 #[.int .u32 (c : Nat), .int .u8 (b : Nat)] w fun e w' => e = .returned (.int .u32 (hb c b : Nat)) ∧ w = w' := by
  obtain ⟨x, X⟩ : ∃ z, Hid (z = Nat.xor c b) := ⟨_, Lib.hid rfl⟩
  have e0 : bits .xor .u32 (c : Int) (b : Int) = (x : Int) := by rw [X.out]; exact xor_nat hc (by omega)
  have hx : x < 4294967296 := by rw [X.out]; exact xor_lt hc (by omega)
  go_enter Tryz.func280, Tryz.ntmps280
  go_wp2
  go_loop [0, 5] (fun y i => ∃ k : Nat, k ≤ 8 ∧ i = .int .i64 k ∧ y = .int .u32 (hN k x : Nat))
    (fun _ i => 8 - (RowKit.intOf i).toNat)
  case atStart => exact ⟨0, Nat.zero_le _, rfl, rfl⟩
  case round =>
    obtain ⟨k, hk, rfl, rfl⟩ := hrel
    have hy := hN_lt hx k
    have HS : Hid (hN (k + 1) x = h1 (hN k x)) := Lib.hid rfl
    by_cases hlt : k < 8
    · generalize hN k x = y at hy HS
      obtain ⟨z, Z⟩ : ∃ z, Hid (z = Nat.land y 1) := ⟨_, Lib.hid rfl⟩
      have ez : bits .and .u32 (y : Int) 1 = (z : Int) := by rw [Z.out]; exact and_nat (y := 1) hy (by omega)
      have zlt : z < 2 := by rw [Z.out, and1]; omega
      by_cases hz : z = 1
      · obtain ⟨u, U⟩ : ∃ z, Hid (z = Nat.xor (Nat.shiftRight y 1) 2197175160) := ⟨_, Lib.hid rfl⟩
        have eu : bits .xor .u32 ((y : Int) / 2) 2197175160 = (u : Int) := by rw [U.out, ← shr1]; exact xor_nat (y := 2197175160) (shr1_lt hy) (by omega)
        have HZ := Lib.hid hz
        subst hz
        go_wp2
        go_round
        case rel =>
          refine ⟨k + 1, by omega, by go_num, ?_⟩
          rw [HS.out, U.out]
          unfold h1
          rw [← Z.out]
        case measure => simp [RowKit.intOf]; omega
      · have hz0 : z = 0 := by omega
        have HZ := Lib.hid hz0
        subst hz0
        go_wp2
        go_round
        case rel =>
          refine ⟨k + 1, by omega, by go_num, ?_⟩
          rw [HS.out]
          unfold h1
          rw [← Z.out, ← shr1]
          show Value.int .u32 _ = Value.int .u32 ((Nat.xor (Nat.shiftRight y 1) (0 * 2197175160) : Nat) : Int)
          rw [Nat.zero_mul]
          have : Nat.xor (Nat.shiftRight y 1) 0 = Nat.shiftRight y 1 := Nat.xor_zero _
          rw [this]
        case measure => simp [RowKit.intOf]; omega
    · go_wp2
      go_ret
      have hkl : k = 8 := by omega
      exact ⟨by rw [hkl]; unfold hb; rw [← X.out]; rfl, rfl⟩

theorem not_nat {x : Nat} (hx : x < 4294967296) : bits .xor .u32 IntKind.u32.max (x : Int) = ((4294967295 - x : Nat) : Int) := by
  have e : IntKind.u32.max = ((4294967295 : Nat) : Int) := by decide
  rw [e, xor_nat (by omega) hx]
  congr 1
  have h1 : (BitVec.allOnes 32 ^^^ BitVec.ofNat 32 x).toNat = (~~~ BitVec.ofNat 32 x).toNat := by rw [BitVec.allOnes_xor]
  rw [BitVec.toNat_xor, BitVec.toNat_not, BitVec.toNat_allOnes, BitVec.toNat_ofNat, Nat.mod_eq_of_lt (by omega)] at h1
  exact h1

theorem hl_step (c : Nat) (l : List Nat) (k : Nat) (h : k < l.length) : hl c (l.take (k + 1)) = hb (hl c (l.take k)) (l[k]?.getD 0) := by
  unfold hl
  rw [take_snocN l k h, List.foldl_append]; rfl
theorem hb_lt {x y : Nat} (hx : x < 4294967296) (hy : y < 256) : hb x y < 4294967296 := hN_lt (xor_lt hx (by omega)) 8
theorem hl_lt : ∀ (l : List Nat) (c : Nat), c < 4294967296 → (∀ x ∈ l, x < 256) → hl c l < 4294967296
  | [], _, hc, _ => hc
  | x :: l, c, hc, h => hl_lt l (hb c x) (hb_lt hc (h x (by simp))) (fun y hy => h y (by simp [hy]))

set_option maxHeartbeats 1000000 in
theorem More_any (c : Nat) (hc : c < 4294967296) (A : Option Addr) (cp : Nat) (l : List Nat) (w : World) (hlen : l.length ≤ 1000000) (hby : ∀ x ∈ l, x < 256)
    (hr : 0 < l.length → ∃ ad, A = some ad ∧ ∀ i, i < l.length → w.cell? (ad.add i) = some (.int .u8 (l[i]?.getD 0 : Nat))) :
    Calls Tryz.prog 274 #[.int .u32 (c : Nat), .slice A l.length cp] w fun e w' => e = .returned (.int .u32 ((4294967295 - hl (4294967295 - c) l : Nat) : Int)) ∧ w = w' := by
  have HBY := Lib.hid hby
  clear hby
  go_enter Tryz.func274, Tryz.ntmps274
  go_wp2
  go_loop [0, 5] (fun y i => ∃ k : Nat, k ≤ l.length ∧ i = .int .i64 k ∧ y = .int .u32 (hl (4294967295 - c) (l.take k) : Nat))
    (fun _ i => l.length - (RowKit.intOf i).toNat)
  case atStart => exact ⟨0, Nat.zero_le _, rfl, by rw [not_nat hc]; rfl⟩
  case round =>
    obtain ⟨k, hk, rfl, rfl⟩ := hrel
    have hx : hl (4294967295 - c) (l.take k) < 4294967296 := hl_lt _ _ (by omega) fun y hy => HBY.out y (List.mem_of_mem_take hy)
    by_cases hlt : k < l.length
    · obtain ⟨ad, rfl, hcl⟩ := hr (by omega)
      have hcell := hcl k hlt
      clear hcl
      have hy : l[k]?.getD 0 < 256 := HBY.out _ (by simp [hlt])
      have HS := Lib.hid (hl_step (4294967295 - c) l k hlt)
      clear hr
      generalize hl (4294967295 - c) (l.take k) = x at hx HS
      generalize l[k]?.getD 0 = y at hcell hy HS
      go_wp2_with fail
      refine (step_any x y hx hy w).mono ?_
      rintro e w' ⟨rfl, rfl⟩
      go_wp2
      go_round
      case rel => exact ⟨k + 1, by omega, by go_num, by rw [HS.out]⟩
      case measure => simp [RowKit.intOf]; omega
    · go_wp2
      go_ret
      have hkl : k = l.length := by omega
      refine ⟨?_, rfl⟩
      rw [hkl, List.take_length] at hx ⊢
      rw [not_nat hx]
      rfl

noncomputable def spMore : SpF
  | [.int .u32 (.ofNat c), v], s => cond (Nat.blt c 4294967296) (match rdNats s v with
    | some l => cond (Nat.ble l.length 1000000) (some (.int .u32 (.ofNat (4294967295 - hl (4294967295 - c) l)), s)) none
    | none => none) none
  | _, _ => none
theorem spMore_sp (hh : Hands ω) (C : Ctx) (hP : C.P = Tryz.prog) : SpOK ω C 274 spMore := by
  intro vs s v s' hv B X m w args hs hr hB
  have hC : COK ω (CE [] [] noCnv noRd) := ceOK hh (fun f hf => by cases hf) (fun f hf => by cases hf) noCnv_ok noRd
  unfold spMore at hv
  split at hv
  · rename_i c u
    cases hb : Nat.blt c 4294967296 with
    | false => rw [hb] at hv; cases hv
    | true =>
      rw [hb] at hv
      simp only [cond_true] at hv
      rw [Nat.blt_eq] at hb
      split at hv
      · rename_i l hl
        cases hlen : Nat.ble l.length 1000000 with
        | false => rw [hlen] at hv; cases hv
        | true =>
          rw [hlen] at hv
          cases hv
          obtain ⟨x', y', rfl, g1, g2⟩ := args2 hr
          obtain rfl := int_inv g1
          obtain ⟨hby, A, cp, rfl, hrd⟩ := rdNats_ok hs g2 hl
          refine calls_ok (by rw [hP]; exact hC.ok.call 274 _ rfl rfl _ w) fun n => ?_
          rw [hP]
          refine callsIn_wide.2 ((More_any c hb A cp l w (Nat.le_of_ble_eq_true hlen) hby (fun h => (hrd h).imp fun ad h => ⟨h.1, h.2.2⟩)).mono ?_)
          rintro e w' ⟨rfl, rfl⟩
          exact ⟨_, rfl, m, Le.refl _, hs, .plain _ rfl, Below.refl _ _⟩
      · cases hv
  · cases hv
noncomputable def refL : List (FuncId × SpF) := [(274, spMore)]
theorem refL_ok (hh : Hands ω) : ∀ p ∈ refL, ∀ C : Ctx, C.P = Tryz.prog → GlobOK C → SpOK ω C p.1 p.2 := by
  intro p hp C hP hG
  simp only [refL, List.mem_cons, List.not_mem_nil, or_false] at hp
  subst hp
  exact spMore_sp hh C hP
end Go.Proofs.YtneaefgmlmeddaaGreatDoor.Ev
