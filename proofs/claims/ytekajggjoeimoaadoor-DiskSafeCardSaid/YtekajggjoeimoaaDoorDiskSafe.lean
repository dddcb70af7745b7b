/- The law DiskSafe returns true at every input, and what came in reads as it did; its card, tied to the program's text. No condition. -/
import Derived.Test.YtekajggjoeimoaaDoorCards
import Derived.Test.YtekajggjoeimoaaDoorTie
import Derived.Test.YtekajggjoeimoaaDoorMd
import Derived.SevenTiedAt
namespace Go.Proofs.YtekajggjoeimoaaDoor.diskSafe
open Go.ChangeShapes Go.WideShapes Go.ChangeAt Go.RowKit Go.Joins Go.Deep
set_option linter.unusedVariables false

/-! ### THE ROW's STEP -/
set_option maxRecDepth 100000 in
theorem lifted (os : Os) (started : os.Started) (H : Type) (enc : TypeId × Value → H) :
    ReturnsInHanded {} Tryd.checked os 4 .any (fun w args => (Rows.diskSafeSpec.pre enc Tryd.prog Tryd.f4 [] false w args ∧ laidMetH Tryd.prog laidL w) ∧ sizedMet enc Tryd.prog Tryd.f4 (OpenSpec.ofChange Rows.diskSafeSpec) false w args)
      (Rows.diskSafeSpec.post enc Tryd.prog Tryd.f4 false true false false) := by
  refine returnsInHanded_of_change_and (C := Tryd.checked) (X := fun w _ => laidMetH Tryd.prog laidL w) (fun _ _ _ hh h => h.of_heap hh) own started (by kernel_rfl) Tryd.func4
    (ChangeSpec.witness_at (enc := enc) (C := Tryd.checked) (os := os) (X := fun w _ => laidMetH Tryd.prog laidL w) false (laidWorld os) #[.slice none 0 0, .slice none 0 0, .slice none 0 0, .int .i64 0, .slice none 0 0] 8 rfl (by kernel_rfl) (by kernel_rfl) (by kernel_rfl) (by kernel_rfl) (by kernel_rfl) (laidWorld_met os _)) ?_
  intro W base args ds gs before hval0 hW _ hsz hL _
  have hW' := hW
  obtain ⟨p, q, hA0, hV0, rfl, hfz, hnd⟩ := hW
  have hA : DataW.TrodAll enc Tryd.prog W 0 (fun _ => true) true Tryd.f4.params.toList args.toList ds p := hA0
  have hV : DataW.TrodVars enc Tryd.prog W (fun _ => true) [] gs q := hV0
  rw [Tryd.params4] at hA
  obtain ⟨v0, vs0, d0, ds0, p0, q0, hargs, rfl, rfl, h0, r0⟩ := trodAll_cons hA
  obtain ⟨v1, vs1, d1, ds1, p1, q1, rfl, rfl, rfl, h1, r1⟩ := trodAll_cons r0
  obtain ⟨v2, vs2, d2, ds2, p2, q2, rfl, rfl, rfl, h2, r2⟩ := trodAll_cons r1
  obtain ⟨v3, vs3, d3, ds3, p3, q3, rfl, rfl, rfl, h3, r3⟩ := trodAll_cons r2
  obtain ⟨v4, vs4, d4, ds4, p4, q4, rfl, rfl, rfl, h4, r4⟩ := trodAll_cons r3
  obtain ⟨rfl, rfl, rfl⟩ := trodAll_nil r4
  obtain rfl : args = #[v0, v1, v2, v3, v4] := by cases args; simp_all
  have hg := handle_of_laid hL
  obtain ⟨rfl, rfl⟩ : gs = [] ∧ q = [] := by
    cases gs with
    | nil => exact ⟨rfl, hV⟩
    | cons g r => exact absurd hV (by intro h; cases h)
  have k0 := h0
  have k1 := h1
  have k2 := h2
  have k3 := h3
  have k4 := h4
  have lt0 : ∀ x ∈ p0, x.block < W.heap.size := by obtain ⟨m, hm⟩ := k0; exact DataW.trod_lt m _ _ _ hm
  have lt1 : ∀ x ∈ p1, x.block < W.heap.size := by obtain ⟨m, hm⟩ := k1; exact DataW.trod_lt m _ _ _ hm
  have lt2 : ∀ x ∈ p2, x.block < W.heap.size := by obtain ⟨m, hm⟩ := k2; exact DataW.trod_lt m _ _ _ hm
  have lt3 : ∀ x ∈ p3, x.block < W.heap.size := by obtain ⟨m, hm⟩ := k3; exact DataW.trod_lt m _ _ _ hm
  have lt4 : ∀ x ∈ p4, x.block < W.heap.size := by obtain ⟨m, hm⟩ := k4; exact DataW.trod_lt m _ _ _ hm
  have hval : ∀ (j : Nat) t v, Tryd.f4.params[j]? = some t → #[v0, v1, v2, v3, v4][j]? = some v → Value.okWide Tryd.prog W .any base t v := hval0
  rw [Tryd.params4] at hval
  obtain ⟨changes, rfl⟩ := okWide_int Tryd.underlying3 (hval 3 3 v3 rfl rfl)
  obtain ⟨a0, n0, g0, rfl⟩ := okWide_slice Tryd.underlying33 (hval 0 33 v0 rfl rfl)
  obtain ⟨a1, n1, g1, rfl⟩ := okWide_slice Tryd.underlying33 (hval 1 33 v1 rfl rfl)
  obtain ⟨a2, n2, g2, rfl⟩ := okWide_slice Tryd.underlying34 (hval 2 34 v2 rfl rfl)
  obtain ⟨a4, n4, g4, rfl⟩ := okWide_slice Tryd.underlying34 (hval 4 34 v4 rfl rfl)
  obtain ⟨A1, c1, l1, hv0, hr1, hb1, hl1⟩ : ∃ (A : Option Addr) (c : Nat) (l : List Bz), Value.slice a0 n0 g0 = .slice A l.length c ∧ Reads W W.heap.size 1 A l.length (l.map Bz.val) ∧ (∀ x ∈ l, BzAt W.heap.size W x) ∧ l.length ≤ 9223372036854775807 := by
    obtain ⟨m, hm⟩ := h0
    exact bzs_of hm
  obtain ⟨A2, c2, l2, hv1, hr2, hb2, hl2⟩ : ∃ (A : Option Addr) (c : Nat) (l : List Bz), Value.slice a1 n1 g1 = .slice A l.length c ∧ Reads W W.heap.size 1 A l.length (l.map Bz.val) ∧ (∀ x ∈ l, BzAt W.heap.size W x) ∧ l.length ≤ 9223372036854775807 := by
    obtain ⟨m, hm⟩ := h1
    exact bzs_of hm
  obtain ⟨A3, c3, wh, hv2, hr3, hl3⟩ : ∃ (A : Option Addr) (c : Nat) (l : List Int), Value.slice a2 n2 g2 = .slice A l.length c ∧ Reads W W.heap.size 1 A l.length (l.map (.int .i64)) ∧ l.length ≤ 9223372036854775807 := by
    obtain ⟨m, hm⟩ := h2
    exact ints_of hm
  obtain ⟨A4, c4, ks, hv4, hr4, hl4⟩ : ∃ (A : Option Addr) (c : Nat) (l : List Int), Value.slice a4 n4 g4 = .slice A l.length c ∧ Reads W W.heap.size 1 A l.length (l.map (.int .i64)) ∧ l.length ≤ 9223372036854775807 := by
    obtain ⟨m, hm⟩ := h4
    exact ints_of hm
  obtain ⟨m3, hm3⟩ := h3
  have hch : -9223372036854775808 ≤ changes ∧ changes ≤ 9223372036854775807 := by
    obtain ⟨kd, hc0, _, wf⟩ := DataW.trod_int Tryd.underlying3 hm3
    have hc1 : [Value.int .i64 changes] = [Value.int .i64 kd] := hc0
    cases hc1
    have e1 : IntKind.i64.min = -9223372036854775808 := rfl
    have e2 : IntKind.i64.max = 9223372036854775807 := rfl
    simp [Lit.wf] at wf
    omega
  rw [hv0, hv1, hv2, hv4]
  rw [hv0] at k0 hW'
  rw [hv1] at k1 hW'
  rw [hv2] at k2 hW'
  rw [hv4] at k4 hW'
  clear hA0 hval0
  refine (safe_any A1 c1 l1 A2 c2 l2 A3 c3 wh changes A4 c4 ks W hg hr1 hb1 hr2 hb2 hr3 hch hr4 hl1 hl2 hl3 hl4).mono fun e W' ⟨he, bel⟩ => ?_
  subst he
  exact ⟨_, rfl, _, _, _, [], _, [], hW', trodAll_mk1 (shut_bool Tryd.underlying4 _), (trodAll_cons_mk (Below.trod laidOut (by kernel_rfl) (of_decide_eq_true (by kernel_rfl)) k0 bel lt0) (trodAll_cons_mk (Below.trod laidOut (by kernel_rfl) (of_decide_eq_true (by kernel_rfl)) k1 bel lt1) (trodAll_cons_mk (Below.trod laidOut (by kernel_rfl) (of_decide_eq_true (by kernel_rfl)) k2 bel lt2) (trodAll_cons_mk (Below.trod laidOut (by kernel_rfl) (of_decide_eq_true (by kernel_rfl)) k3 bel lt3) (trodAll_cons_mk (Below.trod laidOut (by kernel_rfl) (of_decide_eq_true (by kernel_rfl)) k4 bel lt4) trodAll_mk0))))), rfl, bel.frame _, fun h => by cases h⟩

theorem over : Rows.DiskSafeSaid :=
  OpenClaim.holds_of_wide 4 Tryd.f4 rfl rfl rfl rfl rfl rfl rfl ⟨rfl, rfl, rfl, rfl, rfl⟩ rfl rfl rfl rfl rfl (by kernel_rfl) Tryd.func4 (by kernel_rfl)
    (of_decide_eq_true (by kernel_rfl)) (by unfold Func.isWrapper; rw [if_neg (of_decide_eq_false (by kernel_rfl))]; exact ⟨rfl, rfl⟩)
    (fun os started H enc _ => lifted os started H enc)

/-- ████ THE STATEMENT ████ -/
theorem proved : Rows.DiskSafeCardSaid :=
  Claim7.holds_tied_plain_at .later [] [.handle] true _ true
    over (fun _ h => by cases h) (by kernel_rfl) (fun _ h => by cases h) diskSafe_row_tie rfl ⟨rfl, rfl⟩ (by kernel_rfl) rfl
    (fun f fn hf hfn => by
      obtain rfl : f = 4 := Option.some.inj ((show Tryd.prog.funcNamed "scow/scowlaw04.DiskSafe" = some 4 by kernel_rfl).symm.trans hf) |>.symm
      obtain rfl : fn = Tryd.f4 := (Option.some.inj (Tryd.func4.symm.trans hfn)).symm
      exact ⟨by kernel_rfl, fun j t ht => by
        rw [Tryd.params4] at ht
        have h3 : t = 33 ∨ t = 34 ∨ t = 3 := by
          rcases j with _ | _ | _ | _ | _ | j
          · exact .inl (by simpa using ht.symm)
          · exact .inl (by simpa using ht.symm)
          · exact .inr (.inl (by simpa using ht.symm))
          · exact .inr (.inr (by simpa using ht.symm))
          · exact .inr (.inl (by simpa using ht.symm))
          · simp at ht
        rcases h3 with rfl | rfl | rfl
        · exact (show Tryd.prog.wantsStandIn 33 = false by kernel_rfl)
        · exact (show Tryd.prog.wantsStandIn 34 = false by kernel_rfl)
        · exact (show Tryd.prog.wantsStandIn 3 = false by kernel_rfl)⟩)
    (by kernel_rfl)
#print axioms proved
end Go.Proofs.YtekajggjoeimoaaDoor.diskSafe
