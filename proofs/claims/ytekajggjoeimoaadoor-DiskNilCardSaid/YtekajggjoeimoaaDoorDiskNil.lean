/- The law DiskNil returns true at every input, and what came in reads as it did; its card, tied to the program's text. No condition. -/
import Derived.Test.YtekajggjoeimoaaDoorCards
import Derived.Test.YtekajggjoeimoaaDoorTie
import Derived.Test.YtekajggjoeimoaaDoorDn
import Derived.SevenTiedAt
namespace Go.Proofs.YtekajggjoeimoaaDoor.diskNil
open Go.ChangeShapes Go.WideShapes Go.ChangeAt Go.RowKit Go.Joins Go.Deep
open Go.ChangeMaps (open_string shut_string)
set_option linter.unusedVariables false

section
variable {H : Type} {enc : TypeId × Value → H} {P : Program} {w : World} {base : Nat} {spare : Nat → Bool} {held : Bool}
/-- A struct of six one-cell fields, by value. -/
theorem open_agg6 {r : Reach} {b0 : Nat} {t : TypeId} {f0 f1 f2 f3 f4 f5 : Field} {v : Value} {d : DataW H} {p : List MemPlace} (hs : P.underlying t = some (.struct #[f0, f1, f2, f3, f4, f5])) (hone : oneCellFields P #[f0, f1, f2, f3, f4, f5] = true) (hC : P.cellsOf t = 6)
    (hv : Value.okWide P w r b0 t v) (h : DataW.Trod enc P w base spare held t v d p) :
    ∃ (v0 v1 v2 v3 v4 v5 : Value) (y0 y1 y2 y3 y4 y5 : DataW H × List MemPlace) (n : Nat), v = .agg #[v0, v1, v2, v3, v4, v5] ∧ d = .agg [y0.1, y1.1, y2.1, y3.1, y4.1, y5.1] ∧
      DataW.trod enc P w base spare held n f0.type [v0] = some y0 ∧ DataW.trod enc P w base spare held n f1.type [v1] = some y1 ∧ DataW.trod enc P w base spare held n f2.type [v2] = some y2 ∧ DataW.trod enc P w base spare held n f3.type [v3] = some y3 ∧ DataW.trod enc P w base spare held n f4.type [v4] = some y4 ∧ DataW.trod enc P w base spare held n f5.type [v5] = some y5 := by
  obtain ⟨cs, rfl, hsz⟩ := okWide_struct hs hv
  obtain ⟨l⟩ := cs
  match l, hsz.trans hC with
  | [c0, c1, c2, c3, c4, c5], _ =>
    obtain ⟨fuel, hf⟩ := h
    obtain ⟨xs, n, _, hx, _, hlen, hg⟩ := DataW.trod_struct hs hf
    obtain ⟨o0, k0⟩ := hone_of hone 0 f0 rfl
    obtain ⟨o1, k1⟩ := hone_of hone 1 f1 rfl
    obtain ⟨o2, k2⟩ := hone_of hone 2 f2 rfl
    obtain ⟨o3, k3⟩ := hone_of hone 3 f3 rfl
    obtain ⟨o4, k4⟩ := hone_of hone 4 f4 rfl
    obtain ⟨o5, k5⟩ := hone_of hone 5 f5 rfl
    match xs, hlen with
    | [y0, y1, y2, y3, y4, y5], _ =>
      exact ⟨c0, c1, c2, c3, c4, c5, y0, y1, y2, y3, y4, y5, n, rfl, (Prod.mk.inj hx).1, by simpa [Value.cells, o0, k0] using hg 0 f0 rfl, by simpa [Value.cells, o1, k1] using hg 1 f1 rfl, by simpa [Value.cells, o2, k2] using hg 2 f2 rfl, by simpa [Value.cells, o3, k3] using hg 3 f3 rfl, by simpa [Value.cells, o4, k4] using hg 4 f4 rfl, by simpa [Value.cells, o5, k5] using hg 5 f5 rfl⟩
end

open Ev Dn
/-- What came in, one behind the other; then the types' handles. -/
def om (kd n : Int) (sa sb : ByteArray) (ap : Option Addr) (lp cp : Nat) (ak : Option Addr) (lk ck : Nat) : Nat → Value
  | 0 => .int .i64 kd
  | 1 => .string sa
  | 2 => .string sb
  | 3 => .int .i64 n
  | 4 => .slice ap lp cp
  | 5 => .slice ak lk ck
  | 6 => .int .i64 sa.size
  | 7 => .int .i64 sb.size
  | 8 => .int .i64 lp
  | 9 => .int .i64 lk
  | 10 => .int .i64 (sa.size + sb.size)
  | 11 => .int .i64 (sa.size + sb.size + lp)
  | k => .pointer (some ⟨1, k - hBase, none⟩)

section
variable {kd n : Int} {sa sb : ByteArray} {ap : Option Addr} {lp cp : Nat} {ak : Option Addr} {lk ck : Nat}
theorem hands : Hands (om kd n sa sb ap lp cp ak lk ck) := fun t => by
  have : hBase + t = (hBase + t - 12) + 12 := by unfold hBase; omega
  rw [this]
  show Value.pointer (some ⟨1, hBase + t - 12 + 12 - hBase, none⟩) = _
  rw [show hBase + t - 12 + 12 - hBase = t by unfold hBase; omega]

theorem lns_ok : ∀ f ∈ lns, LenOK (om kd n sa sb ap lp cp ak lk ck) Tryd.prog f := by
  intro f hf
  simp only [lns, List.mem_cons, List.not_mem_nil, or_false] at hf
  rcases hf with rfl | rfl | rfl | rfl
  · exact len_string Tryd.underlying9 rfl rfl
  · exact len_string Tryd.underlying9 rfl rfl
  · exact len_slice Tryd.underlying38 rfl rfl
  · exact len_slice Tryd.underlying34 rfl rfl

theorem cv_ok (hp : lp ≤ maxLen) : ∀ src dst x v, cv src dst x = some v → ∀ (m : M (om kd n sa sb ap lp cp ak lk ck)) (x' : Value) (w : World), VRel m x x' → ∃ v', (convert src dst x').run Tryd.prog w = .ok v' w ∧ VRel m v v' := by
  intro src dst x v h m x' w hx
  unfold cv at h
  cases hc : (Nat.beq src 3 && (Nat.beq dst 29 && veq 2 x (tk 8))) with
  | false => rw [hc] at h; cases h
  | true =>
    rw [hc] at h
    cases h
    simp only [Bool.and_eq_true] at hc
    obtain ⟨h1, h2, h3⟩ := hc
    obtain rfl := Nat.eq_of_beq_eq_true h1
    obtain rfl := Nat.eq_of_beq_eq_true h2
    obtain rfl := veq_sound _ _ _ h3
    obtain rfl := tok_inv hx
    refine ⟨_, ?_, .tok 8 rfl⟩
    have : Tryd.prog.intKind 29 = .i64 := by kernel_rfl
    have hr := run_convert_int (P := Tryd.prog) w 3 29 .i64 lp (by kernel_rfl) (by kernel_rfl)
    rw [this, wrap_i64 (by omega) (by simp only [maxLen] at hp; omega)] at hr
    exact hr

theorem run_of {fs : List Fact} {q : Nat → Bool} (hp : lp ≤ maxLen) (hf : ∀ f ∈ fs, f.ok (om kd n sa sb ap lp cp ak lk ck) Tryd.prog) {v0 : Value} (h0 : VRel (ω := om kd n sa sb ap lp cp ak lk ck) (fun _ => none) v0 (.int .i64 kd))
    (hr : isTr ((ev (Cn fs q) 10000).f 5 (deed v0) ⟨0, .leaf⟩) = true) (w : World) (hg : w.cell? ⟨0, 0, none⟩ = some (.iface 125 (.agg #[.pointer (some ⟨1, 24, none⟩)]))) (hrd : ∀ k, q k = true → RdV w w.heap.size (om kd n sa sb ap lp cp ak lk ck k)) :
    Calls Tryd.prog 5 #[.agg #[.int .i64 kd, .string sa, .string sb, .int .i64 n, .slice ap lp cp, .slice ak lk ck]] w fun e w' => e = .returned (.bool true) ∧ Below w.heap.size w w' := by
  obtain ⟨s', hs'⟩ := isTr_some hr
  refine run_args (C := Cn fs q) (ω := om kd n sa sb ap lp cp ak lk ck) (ceOK hands hf lns_ok (cv_ok hp) q) hs' ?_ rfl rfl w (glob_of hands hg) hrd
  refine LRel.cons ?_ (LRel.nil _)
  exact LRel.agg (l := [v0, tk 1, tk 2, tk 3, tk 4, tk 5]) (l' := [_, _, _, _, _, _]) (LRel.cons h0 (LRel.cons (.tok 1 rfl) (LRel.cons (.tok 2 rfl) (LRel.cons (.tok 3 rfl) (LRel.cons (.tok 4 rfl) (LRel.cons (.tok 5 rfl) (LRel.nil _)))))))

/-- Facts, each. -/
abbrev Ok (kd n : Int) (sa sb : ByteArray) (ap : Option Addr) (lp cp : Nat) (ak : Option Addr) (lk ck : Nat) (f : Fact) : Prop := f.ok (om kd n sa sb ap lp cp ak lk ck) Tryd.prog
theorem kAdd (h : sa.size ≤ reachBytes) (h' : sb.size ≤ reachBytes) : Ok kd n sa sb ap lp cp ak lk ck ⟨.add, tk 6, tk 7, tk 10⟩ :=
  Fact.add (ω := om kd n sa sb ap lp cp ak lk ck) (p := sa.size) (q := sb.size) rfl rfl rfl rfl rfl (by have := reachBytes_lt; rw [wrap_i64 (by omega) (by omega)]; rfl)
theorem kGt10 {b : Bool} (h : decide ((4000 : Int) < sa.size + sb.size) = b) : Ok kd n sa sb ap lp cp ak lk ck ⟨.gtr, tk 10, i64 4000, .bool b⟩ :=
  Fact.gtr (ω := om kd n sa sb ap lp cp ak lk ck) (p := sa.size + sb.size) (q := 4000) rfl rfl rfl rfl h
theorem kGt8 {b : Bool} (h : decide ((4000 : Int) < lp) = b) : Ok kd n sa sb ap lp cp ak lk ck ⟨.gtr, tk 8, i64 4000, .bool b⟩ :=
  Fact.gtr (ω := om kd n sa sb ap lp cp ak lk ck) (p := lp) (q := 4000) rfl rfl rfl rfl h
theorem kGt9 {b : Bool} (h : decide ((80 : Int) < lk) = b) : Ok kd n sa sb ap lp cp ak lk ck ⟨.gtr, tk 9, i64 80, .bool b⟩ :=
  Fact.gtr (ω := om kd n sa sb ap lp cp ak lk ck) (p := lk) (q := 80) rfl rfl rfl rfl h
theorem kGt3 {b : Bool} (h : decide ((100 : Int) < n) = b) : Ok kd n sa sb ap lp cp ak lk ck ⟨.gtr, tk 3, i64 100, .bool b⟩ :=
  Fact.gtr (ω := om kd n sa sb ap lp cp ak lk ck) (p := n) (q := 100) rfl rfl rfl rfl h
theorem kLe3 {b : Bool} (h : decide (n ≤ (4096 : Int)) = b) : Ok kd n sa sb ap lp cp ak lk ck ⟨.leq, tk 3, i64 4096, .bool b⟩ :=
  Fact.leq (ω := om kd n sa sb ap lp cp ak lk ck) (p := n) (q := 4096) rfl rfl rfl rfl h
theorem kNe {k : Int} (h : kd ≠ k) : Ok kd n sa sb ap lp cp ak lk ck (ne k) :=
  Fact.eql (ω := om kd n sa sb ap lp cp ak lk ck) (p := kd) (q := k) rfl rfl rfl rfl (decide_eq_false h)
theorem fS_ok {b : Bool} (h1 : sa.size + sb.size ≤ 4000) (h2 : lp ≤ 4000) (h3 : lk ≤ 80) (h4 : decide ((sa.size + sb.size + lp : Int) ≤ 4000) = b) : ∀ f ∈ fS b, Ok kd n sa sb ap lp cp ak lk ck f := by
  intro f hf
  simp only [fS, List.mem_cons, List.not_mem_nil, or_false] at hf
  rcases hf with rfl | rfl | rfl | rfl | rfl | rfl | rfl | rfl
  · exact kAdd (Nat.le_trans (by omega) (show 4000 ≤ reachBytes by decide)) (Nat.le_trans (by omega) (show 4000 ≤ reachBytes by decide))
  · exact kGt10 (decide_eq_false (by omega))
  · exact kGt8 (decide_eq_false (by omega))
  · exact kGt9 (decide_eq_false (by omega))
  · exact Fact.add (ω := om kd n sa sb ap lp cp ak lk ck) (p := 0) (q := sa.size) rfl rfl rfl rfl rfl (by rw [wrap_i64 (by omega) (by omega)]; simp [den, tk, om])
  · exact Fact.add (ω := om kd n sa sb ap lp cp ak lk ck) (p := sa.size + sb.size) (q := lp) rfl rfl rfl rfl rfl (by rw [wrap_i64 (by omega) (by omega)]; rfl)
  · exact Fact.leq (ω := om kd n sa sb ap lp cp ak lk ck) (p := sa.size + sb.size + lp) (q := 4000) rfl rfl rfl rfl h4
  · exact Fact.strNeq (ω := om kd n sa sb ap lp cp ak lk ck) (s := sa) (u := sa) rfl rfl rfl rfl (by simp)
theorem app {xs ys : List Fact} (h : ∀ f ∈ xs, Ok kd n sa sb ap lp cp ak lk ck f) (h' : ∀ f ∈ ys, Ok kd n sa sb ap lp cp ak lk ck f) : ∀ f ∈ xs ++ ys, Ok kd n sa sb ap lp cp ak lk ck f := fun f hf => (List.mem_append.1 hf).elim (h f) (h' f)
theorem nil_ok : ∀ f ∈ ([] : List Fact), Ok kd n sa sb ap lp cp ak lk ck f := fun f hf => by cases hf
theorem one_ok {g : Fact} (h : Ok kd n sa sb ap lp cp ak lk ck g) : ∀ f ∈ [g], Ok kd n sa sb ap lp cp ak lk ck f := fun f hf => by rw [List.mem_singleton.1 hf]; exact h
theorem two_ok {g g' : Fact} (h : Ok kd n sa sb ap lp cp ak lk ck g) (h' : Ok kd n sa sb ap lp cp ak lk ck g') : ∀ f ∈ [g, g'], Ok kd n sa sb ap lp cp ak lk ck f := fun f hf => by
  simp only [List.mem_cons, List.not_mem_nil, or_false] at hf
  rcases hf with rfl | rfl
  · exact h
  · exact h'
end

/-! ### THE WALK: by runs of the interpreter. -/
theorem walk (kd n : Int) (sa sb : ByteArray) (ap : Option Addr) (lp cp : Nat) (ak : Option Addr) (lk ck : Nat) (zp zk : List Int) (w : World) (ha : sa.size ≤ reachBytes) (hb : sb.size ≤ reachBytes) (hp : IsRow .u8 w ap lp cp zp) (hk : IsRow .i64 w ak lk ck zk)
    (hg : w.cell? ⟨0, 0, none⟩ = some (.iface 125 (.agg #[.pointer (some ⟨1, 24, none⟩)]))) :
    Calls Tryd.prog 5 #[.agg #[.int .i64 kd, .string sa, .string sb, .int .i64 n, .slice ap lp cp, .slice ak lk ck]] w fun e w' => e = .returned (.bool true) ∧ Below w.heap.size w w' := by
  have hno : ∀ k, no k = true → RdV w w.heap.size (om kd n sa sb ap lp cp ak lk ck k) := fun k h => by cases h
  have hpl := hp.le
  by_cases c1 : 4000 < sa.size + sb.size
  · exact run_of hpl (fs := fA) (two_ok (kAdd ha hb) (kGt10 (decide_eq_true (by omega)))) (.tok 0 rfl) rA w hg hno
  by_cases c2 : 4000 < lp
  · refine run_of hpl (fs := fB) (app (xs := [_, _]) (two_ok (kAdd ha hb) (kGt10 (decide_eq_false (by omega)))) (one_ok (kGt8 (decide_eq_true (by omega))))) (.tok 0 rfl) rB w hg hno
  by_cases c3 : 80 < lk
  · refine run_of hpl (fs := fC) (app (xs := [_, _]) (two_ok (kAdd ha hb) (kGt10 (decide_eq_false (by omega)))) (two_ok (kGt8 (decide_eq_false (by omega))) (kGt9 (decide_eq_true (by omega))))) (.tok 0 rfl) rC w hg hno
  have hrd : ∀ k, rd k = true → RdV w w.heap.size (om kd n sa sb ap lp cp ak lk ck k) := fun k h => by
    unfold rd at h
    rw [Bool.or_eq_true] at h
    rcases h with h | h
    · obtain rfl := Nat.eq_of_beq_eq_true h; exact row_read hp (by omega)
    · obtain rfl := Nat.eq_of_beq_eq_true h; exact row_read hk (by omega)
  by_cases c4 : sa.size + sb.size + lp ≤ 4000
  · have hS := fS_ok (kd := kd) (n := n) (sa := sa) (sb := sb) (ap := ap) (lp := lp) (cp := cp) (ak := ak) (lk := lk) (ck := ck) (b := true) (by omega) (by omega) (by omega) (decide_eq_true (by omega))
    by_cases k3 : kd = 3
    · subst k3
      by_cases d1 : 100 < n
      · by_cases d2 : n ≤ 4096
        · exact run_of hpl (fs := fS true ++ f3b true) (app hS (two_ok (kGt3 (decide_eq_true d1)) (kLe3 (decide_eq_true d2)))) (.plain _ rfl) rD w hg hrd
        · exact run_of hpl (fs := fS true ++ f3b false) (app hS (two_ok (kGt3 (decide_eq_true d1)) (kLe3 (decide_eq_false d2)))) (.plain _ rfl) r3b w hg hrd
      · exact run_of hpl (fs := fS true ++ f3 false) (app hS (one_ok (kGt3 (decide_eq_false d1)))) (.plain _ rfl) r3 w hg hrd
    by_cases k0 : kd = 0
    · subst k0; exact run_of hpl (app hS nil_ok) (.plain _ rfl) r0 w hg hrd
    by_cases k1 : kd = 1
    · subst k1; exact run_of hpl (app hS nil_ok) (.plain _ rfl) r1 w hg hrd
    by_cases k2 : kd = 2
    · subst k2; exact run_of hpl (app hS nil_ok) (.plain _ rfl) r2 w hg hrd
    by_cases k4 : kd = 4
    · subst k4; exact run_of hpl (app hS nil_ok) (.plain _ rfl) r4 w hg hrd
    by_cases k5 : kd = 5
    · subst k5; exact run_of hpl (app hS nil_ok) (.plain _ rfl) r5 w hg hrd
    by_cases k6 : kd = 6
    · subst k6; exact run_of hpl (app hS nil_ok) (.plain _ rfl) r6 w hg hrd
    by_cases k7 : kd = 7
    · subst k7; exact run_of hpl (app hS nil_ok) (.plain _ rfl) r7 w hg hrd
    by_cases k8 : kd = 8
    · subst k8; exact run_of hpl (app hS nil_ok) (.plain _ rfl) r8 w hg hrd
    by_cases k9 : kd = 9
    · subst k9; exact run_of hpl (app hS nil_ok) (.plain _ rfl) r9 w hg hrd
    have hN : ∀ f ∈ fN, Ok kd n sa sb ap lp cp ak lk ck f := by
      intro f hf
      simp only [fN, List.mem_cons, List.not_mem_nil, or_false] at hf
      rcases hf with rfl | rfl | rfl | rfl | rfl | rfl | rfl | rfl | rfl | rfl <;> exact kNe (by assumption)
    by_cases lo : kd < 0
    · exact run_of hpl (fs := fS true ++ (fN ++ fLo)) (app hS (app hN (one_ok (Fact.geq (ω := om kd n sa sb ap lp cp ak lk ck) (p := kd) (q := 0) rfl rfl rfl rfl (decide_eq_false (by omega)))))) (.tok 0 rfl) rLo w hg hrd
    · exact run_of hpl (fs := fS true ++ (fN ++ fHi)) (app hS (app hN (two_ok (Fact.geq (ω := om kd n sa sb ap lp cp ak lk ck) (p := kd) (q := 0) rfl rfl rfl rfl (decide_eq_true (by omega))) (Fact.leq (ω := om kd n sa sb ap lp cp ak lk ck) (p := kd) (q := 7) rfl rfl rfl rfl (decide_eq_false (by omega)))))) (.tok 0 rfl) rHi w hg hrd
  · have hS := fS_ok (kd := kd) (n := n) (sa := sa) (sb := sb) (ap := ap) (lp := lp) (cp := cp) (ak := ak) (lk := lk) (ck := ck) (b := false) (by omega) (by omega) (by omega) (decide_eq_false (by omega))
    by_cases k3 : kd = 3
    · subst k3
      by_cases d1 : 100 < n
      · by_cases d2 : n ≤ 4096
        · exact run_of hpl (fs := fS false ++ f3b true) (app hS (two_ok (kGt3 (decide_eq_true d1)) (kLe3 (decide_eq_true d2)))) (.plain _ rfl) rD' w hg hno
        · exact run_of hpl (fs := fS false ++ f3b false) (app hS (two_ok (kGt3 (decide_eq_true d1)) (kLe3 (decide_eq_false d2)))) (.plain _ rfl) rE3b w hg hno
      · exact run_of hpl (fs := fS false ++ f3 false) (app hS (one_ok (kGt3 (decide_eq_false d1)))) (.plain _ rfl) rE3 w hg hno
    · exact run_of hpl (fs := fS false ++ [ne 3]) (app hS (one_ok (kNe k3))) (.tok 0 rfl) rE w hg hno

/-! ### THE ROW's STEP -/
set_option maxRecDepth 100000 in
theorem lifted (os : Os) (started : os.Started) (H : Type) (enc : TypeId × Value → H) :
    ReturnsInHanded {} Tryd.checked os 5 .any (fun w args => (Rows.diskNilSpec.pre enc Tryd.prog Tryd.f5 [] false w args ∧ laidMetH Tryd.prog laidL w) ∧ sizedMet enc Tryd.prog Tryd.f5 (OpenSpec.ofChange Rows.diskNilSpec) false w args)
      (Rows.diskNilSpec.post enc Tryd.prog Tryd.f5 false true false false) := by
  refine returnsInHanded_of_change_and (C := Tryd.checked) (X := fun w _ => laidMetH Tryd.prog laidL w) (fun _ _ _ hh h => h.of_heap hh) own started (by kernel_rfl) Tryd.func5
    (ChangeSpec.witness_at (enc := enc) (C := Tryd.checked) (os := os) (X := fun w _ => laidMetH Tryd.prog laidL w) false (laidWorld os) #[.agg #[.int .i64 0, .string ⟨#[]⟩, .string ⟨#[]⟩, .int .i64 0, .slice none 0 0, .slice none 0 0]] 8 rfl (by kernel_rfl) (by kernel_rfl) (by kernel_rfl) (by kernel_rfl) (by kernel_rfl) (laidWorld_met os _)) ?_
  intro W base args ds gs before hval0 hW _ hsz hL _
  have hval : ∀ (j : Nat) t v, Tryd.f5.params[j]? = some t → args[j]? = some v → Value.okWide Tryd.prog W .any base t v := hval0
  have hW' := hW
  obtain ⟨p, q, hA0, hV0, rfl, hfz, hnd⟩ := hW
  have hA : DataW.TrodAll enc Tryd.prog W 0 (fun _ => true) true Tryd.f5.params.toList args.toList ds p := hA0
  have hV : DataW.TrodVars enc Tryd.prog W (fun _ => true) [] gs q := hV0
  rw [Tryd.params5] at hA hval
  obtain ⟨v0, vs0, d0, ds0, p0, q0, hargs, rfl, rfl, h0, r0⟩ := trodAll_cons hA
  obtain ⟨rfl, rfl, rfl⟩ := trodAll_nil r0
  obtain rfl : args = #[v0] := by cases args; simp_all
  have hg := handle_of_laid hL
  obtain ⟨rfl, rfl⟩ : gs = [] ∧ q = [] := by
    cases gs with
    | nil => exact ⟨rfl, hV⟩
    | cons g r => exact absurd hV (by intro h; cases h)
  have k0 := h0
  have lt0 : ∀ x ∈ p0, x.block < W.heap.size := by obtain ⟨m, hm⟩ := k0; exact DataW.trod_lt m _ _ _ hm
  obtain ⟨c0, c1, c2, c3, c4, c5, y0, y1, y2, y3, y4, y5, n, rfl, rfl, t0, t1, t2, t3, t4, t5⟩ := open_agg6 (P := Tryd.prog) (t := 46) Tryd.underlying46 (by kernel_rfl) (by kernel_rfl) (hval 0 46 v0 rfl rfl) h0
  obtain ⟨kd, hc0, _⟩ := DataW.trod_int Tryd.underlying3 t0
  obtain ⟨sa, hc1, e1, _⟩ := DataW.trod_string Tryd.underlying9 t1
  obtain ⟨sb, hc2, e2, _⟩ := DataW.trod_string Tryd.underlying9 t2
  obtain ⟨nn, hc3, _⟩ := DataW.trod_int Tryd.underlying3 t3
  obtain ⟨ap, lp, cp, zp, rfl, hp⟩ := row_of Tryd.underlying38 Tryd.underlying5 (by kernel_rfl) t4
  obtain ⟨ak, lk, ck, zk, rfl, hk⟩ := row_of Tryd.underlying34 Tryd.underlying3 (by kernel_rfl) t5
  simp only [List.cons.injEq, and_true] at hc0 hc1 hc2 hc3
  subst hc0; subst hc1; subst hc2; subst hc3
  have hsf := sized_fields (ts := _) (ds := _) Tryd.underlying46 hsz
  have ha : sa.size ≤ reachBytes := by
    have := sized_string (j := 1) (t := 9) (bytes := sa.data.toList) hsf rfl (by rw [e1]; rfl)
    simpa using this
  have hb : sb.size ≤ reachBytes := by
    have := sized_string (j := 2) (t := 9) (bytes := sb.data.toList) hsf rfl (by rw [e2]; rfl)
    simpa using this
  clear hA0 hval0
  refine (walk kd nn sa sb ap lp cp ak lk ck zp zk W ha hb hp hk hg).mono fun e W' ⟨he, bel⟩ => ?_
  subst he
  exact ⟨_, rfl, _, _, _, [], _, [], hW', trodAll_mk1 (shut_bool Tryd.underlying4 _), (trodAll_cons_mk (Below.trod laidOut (by kernel_rfl) (of_decide_eq_true (by kernel_rfl)) k0 bel lt0) trodAll_mk0), rfl, bel.frame _, fun h => by cases h⟩

theorem over : Rows.DiskNilSaid :=
  OpenClaim.holds_of_wide 5 Tryd.f5 rfl rfl rfl rfl rfl rfl rfl ⟨rfl, rfl, rfl, rfl, rfl⟩ rfl rfl rfl rfl rfl (by kernel_rfl) Tryd.func5 (by kernel_rfl)
    (of_decide_eq_true (by kernel_rfl)) (by unfold Func.isWrapper; rw [if_neg (of_decide_eq_false (by kernel_rfl))]; exact ⟨rfl, rfl⟩)
    (fun os started H enc _ => lifted os started H enc)

/-- ████ THE STATEMENT ████ -/
theorem proved : Rows.DiskNilCardSaid :=
  Claim7.holds_tied_plain_at .later [] [.handle] true _ true
    over (fun _ h => by cases h) (by kernel_rfl) (fun _ h => by cases h) diskNil_row_tie rfl ⟨rfl, rfl⟩ (by kernel_rfl) rfl
    (fun f fn hf hfn => by
      obtain rfl : f = 5 := Option.some.inj ((show Tryd.prog.funcNamed "scow/scowlaw04.DiskNil" = some 5 by kernel_rfl).symm.trans hf) |>.symm
      obtain rfl : fn = Tryd.f5 := (Option.some.inj (Tryd.func5.symm.trans hfn)).symm
      exact ⟨by kernel_rfl, fun j t ht => by
        rw [Tryd.params5] at ht
        have h3 : t = 46 := by
          rcases j with _ | j
          · simpa using ht.symm
          · simp at ht
        subst h3
        exact (show Tryd.prog.wantsStandIn 46 = false by kernel_rfl)⟩)
    (by kernel_rfl)
#print axioms proved
end Go.Proofs.YtekajggjoeimoaaDoor.diskNil
