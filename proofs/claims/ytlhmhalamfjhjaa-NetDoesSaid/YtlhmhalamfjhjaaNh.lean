/- small: may deeds be asked here? -/
import Derived.Test.YtlhmhalamfjhjaaNg
set_option linter.unusedVariables false
namespace Go.Proofs.Ytlhmhalamfjhjaa
open Go.RowKit
/-- A deed. -/
structure Dd where
  kind : Int
  n : Int
  at_ : Int
  by_ : Int
  b : List Int
  A : Option Addr
  c : Nat
/-- A deed in memory. -/
structure DdAt (B : Nat) (w : World) (ad : Addr) (d : Dd) : Prop where
  c0 : w.cell? ad = some (.int .i64 d.kind)
  c1 : w.cell? ⟨ad.block, ad.off + 1, none⟩ = some (.int .i64 d.n)
  c2 : w.cell? ⟨ad.block, ad.off + 2, none⟩ = some (.int .i64 d.at_)
  c3 : w.cell? ⟨ad.block, ad.off + 3, none⟩ = some (.int .u8 d.by_)
  c4 : w.cell? ⟨ad.block, ad.off + 4, none⟩ = some (.slice d.A d.b.length d.c)
  row : RowI B w d.A d.c d.b
  by0 : 0 ≤ d.by_ ∧ d.by_ < 256
def DeedsAt (B : Nat) (w : World) (A : Option Addr) (ds : List Dd) : Prop := ∀ k d, ds[k]? = some d → ∃ ad, A = some ad ∧ ad.block < B ∧ DdAt B w (ad.add (k * 5)) d
theorem add_block (a : Addr) (n : Nat) : (a.add n).block = a.block := by unfold Addr.add; split <;> rfl
theorem DeedsAt.below {B : Nat} {w w' : World} {A : Option Addr} {ds : List Dd} (h : DeedsAt B w A ds) (hb : Below B w w') : DeedsAt B w' A ds := fun k d hd => by
  obtain ⟨ad, e, hl, h1⟩ := h k d hd
  have hk : (ad.add (k * 5)).block < B := by rw [add_block]; exact hl
  exact ⟨ad, e, hl, (hb.cell hk).trans h1.c0, (hb.cell (p := ⟨_, _, none⟩) hk).trans h1.c1, (hb.cell (p := ⟨_, _, none⟩) hk).trans h1.c2, (hb.cell (p := ⟨_, _, none⟩) hk).trans h1.c3, (hb.cell (p := ⟨_, _, none⟩) hk).trans h1.c4, h1.row.below hb, h1.by0⟩
/-- What small answers. -/
def SmallR (ds : List Dd) (w : World) (e : Ending) (w' : World) : Prop := ∃ b, e = .returned (.bool b) ∧ w = w' ∧ (b = true → ds.length ≤ 150 ∧ ∀ d ∈ ds, d.b.length ≤ 9000)
set_option maxHeartbeats 1000000 in
set_option maxRecDepth 100000 in
theorem small_any {B : Nat} (A : Option Addr) (c : Nat) (ds : List Dd) (w : World) (h : DeedsAt B w A ds) (hl : ds.length ≤ 9223372036854775807) : Calls Try.prog 6 #[.slice A ds.length c] w (SmallR ds w) := by
  go_enter Try.func6, Try.ntmps6
  go_wp2
  go_loop [3, 4] (fun n i => ∃ k m : Nat, k ≤ ds.length ∧ k ≤ 151 ∧ i = .int .i64 k ∧ n = .int .i64 m ∧ m ≤ 45000 ∧ ∀ j d, j < k → ds[j]? = some d → d.b.length ≤ 9000) (fun _ i => ds.length - (intOf i).toNat)
  case atStart => exact ⟨0, 0, Nat.zero_le _, by omega, rfl, rfl, by omega, fun j d hj => absurd hj (by omega)⟩
  case round =>
    obtain ⟨k, m, hk, hk1, rfl, rfl, hm, hall⟩ := hrel
    have HA := Lib.hid hall
    clear hall
    by_cases h1 : k < ds.length
    · have d1 : decide (k < ds.length) = true := by simpa using h1
      by_cases h2 : k ≤ 150
      · have d2 : decide ((k : Int) ≤ 150) = true := by simp; omega
        by_cases h3 : m ≤ 36000
        · have d3 : decide ((m : Int) ≤ 36000) = true := by simp; omega
          obtain ⟨d, hd⟩ : ∃ d, ds[k]? = some d := ⟨_, List.getElem?_eq_getElem h1⟩
          obtain ⟨ad, rfl, _, hD⟩ := h k d hd
          have e4 := hD.c4
          by_cases h4 : d.b.length ≤ 9000
          · have d4 : decide ((9000 : Int) < d.b.length) = false := by simp; omega
            go_wp2
            go_round
            case rel => exact ⟨k + 1, m + d.b.length, by omega, by omega, by go_num, by go_num, by omega, fun j x hj hx => by
              by_cases e : j = k
              · subst e; rw [hd] at hx; cases hx; exact h4
              · exact HA.out j x (by omega) hx⟩
            case measure => simp [intOf]; omega
          · have d4 : decide ((9000 : Int) < d.b.length) = true := by simp; omega
            go_wp2
            go_ret
            exact ⟨false, rfl, rfl, fun e => by cases e⟩
        · have d3 : decide ((m : Int) ≤ 36000) = false := by simp; omega
          by_cases h5 : ds.length ≤ 150
          · have d5 : decide ((ds.length : Int) ≤ 150) = true := by simp; omega
            go_wp2
            go_ret
            exact ⟨false, rfl, rfl, fun e => by cases e⟩
          · have d5 : decide ((ds.length : Int) ≤ 150) = false := by simp; omega
            go_wp2
            go_ret
            exact ⟨false, rfl, rfl, fun e => by cases e⟩
      · have d2 : decide ((k : Int) ≤ 150) = false := by simp; omega
        have d5 : decide ((ds.length : Int) ≤ 150) = false := by simp; omega
        go_wp2
        go_ret
        exact ⟨false, rfl, rfl, fun e => by cases e⟩
    · obtain rfl : k = ds.length := by omega
      by_cases h5 : ds.length ≤ 150
      · have d5 : decide ((ds.length : Int) ≤ 150) = true := by simp; omega
        by_cases h3 : m ≤ 36000
        · have d3 : decide ((m : Int) ≤ 36000) = true := by simp; omega
          go_wp2
          go_ret
          exact ⟨true, rfl, rfl, fun _ => ⟨h5, fun d hd => by
            obtain ⟨j, hj, e⟩ := List.mem_iff_getElem.1 hd
            exact HA.out j d hj (by rw [List.getElem?_eq_getElem hj, e])⟩⟩
        · have d3 : decide ((m : Int) ≤ 36000) = false := by simp; omega
          go_wp2
          go_ret
          exact ⟨false, rfl, rfl, fun e => by cases e⟩
      · have d5 : decide ((ds.length : Int) ≤ 150) = false := by simp; omega
        go_wp2
        go_ret
        exact ⟨false, rfl, rfl, fun e => by cases e⟩
end Go.Proofs.Ytlhmhalamfjhjaa
