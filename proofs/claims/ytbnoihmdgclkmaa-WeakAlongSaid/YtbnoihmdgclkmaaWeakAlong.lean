/- The law WeakAlong returns true at every input, and what came in reads as it did. No condition. -/
import Derived.Test.YtbnoihmdgclkmaaRows
import Derived.Deep.RegionHeld3
import Derived.Test.YtbnoihmdgclkmaaLv
import Derived.WalkKit
import Derived.ProofKit
import Derived.OpenShut
import Derived.ShutString
import Derived.ChangeOld
import Derived.Below
namespace Go.Proofs.Ytbnoihmdgclkmaa.weakAlong
open Go.ChangeShapes Go.WideShapes Go.ChangeAt Go.RowKit
open Go.ChangeMaps (open_string shut_string)
set_option linter.unusedVariables false

theorem own : ownKnob Try.prog.godebug = none := by kernel_rfl
theorem laidOut : laidOutB Try.prog = true := by kernel_rfl

/-- WHAT THE WALK IS TOLD OF A SLICE OF INTEGERS THAT CAME IN: it is nil; or it leads to a row of 'cap' cells, the numbers 'zs' (the first 'len' are its elements, the rest its spare room), each fitting its kind. -/
def IsRow (k : IntKind) (w : World) (a : Option Addr) (len cap : Nat) (zs : List Int) : Prop :=
  (a = none ∧ len = 0 ∧ cap = 0 ∧ zs = []) ∨
  ∃ x, a = some x ∧ len ≤ cap ∧ cap ≤ maxLen ∧ zs.length = cap ∧ (∀ i, i < zs.length → w.cell? (x.add i) = some (.int k (zs.getD i 0))) ∧ ∀ n ∈ zs, (Lit.int k n).wf = true

/-! ### STEP 1: THE WALK: the Go text returns true, AND WRITES NOTHING THAT WAS THERE: 'Below w.heap.size w w'' (Derived/Below.lean: '.refl', '.alloc', '.drew', '.setCell' at a new block, '.trans'). Open each 'IsRow' by 'rcases' AHEAD of 'go_enter'; part every test ahead of the walk. -/
theorem walk (a0 : Option Addr) (len0 cap0 : Nat) (z0 : List Int) (a1 : Int) (w : World) (w0 : IsRow .u8 w a0 len0 cap0 z0) (w1 : (Lit.int .u8 a1).wf = true) :
    Calls Try.prog 6 #[.slice a0 len0 cap0, .int .u8 a1] w fun e w' => e = .returned (.bool true) ∧ Below w.heap.size w w' := by
  obtain ⟨l, rfl, hr, hby, hlc, hcm⟩ := row_open w0
  obtain ⟨i0, hi, hz0, hz1, hz2⟩ := info_parts Try.info5
  simp [Lit.wf, IntKind.min, IntKind.max, IntKind.bits, IntKind.signed] at w1
  clear w0
  by_cases hl : 600 < l.length ∨ l.length < 1
  · rcases hl with hl | hl
    · go_enter Try.func6, Try.ntmps6
      go_wp2_with fail
      refine (live_any _).mono ?_
      rintro e w1 ⟨rfl, hb1⟩
      go_wp2_with fail
      go_ret
      exact ⟨rfl, hb1⟩
    · have d1 : decide ((600 : Int) < (l.length : Int)) = false := by simp; omega
      go_enter Try.func6, Try.ntmps6
      go_wp2_with fail
      refine (live_any _).mono ?_
      rintro e w1 ⟨rfl, hb1⟩
      go_wp2_with fail
      go_ret
      exact ⟨rfl, hb1⟩
  · obtain ⟨c, t, HL⟩ : ∃ c t, Hid (l = c :: t) := by
      cases l with
      | nil => simp at hl
      | cons c t => exact ⟨c, t, rfl⟩
    obtain ⟨ad, rfl, hadB, hcl⟩ := hr (by omega)
    have c0 := hcl 0 (by omega)
    have hc : l[0]?.getD 0 = c := by rw [HL.out]; rfl
    have bc := hby 0
    rw [hc] at c0 bc
    have d1 : decide ((600 : Int) < (l.length : Int)) = false := by simp; omega
    have d2 : decide ((l.length : Int) < 1) = false := by simp; omega
    have tl : t.length = l.length - 1 := by rw [HL.out]; rfl
    have hsl := run_from (P := Try.prog) Try.underlying22 hi (some ad) l.length cap0 .i64 1 1 rfl (by omega)
    have rt := (Rd.rv hr).from_ 1 l.length cap0 i0.size hz1 (by simp) hlc
    generalize (if cap0 = 1 then some ad else (some ad).map (fun a => a.add (1 * i0.size))) = A' at rt hsl
    rw [show (l.map (Value.int .u8)).drop 1 = t.map (Value.int .u8) from by rw [HL.out]; rfl] at rt
    have TL := Lib.hid tl
    clear hc hcl tl
    go_enter Try.func6, Try.ntmps6
    go_wp2_with (first
      | (at_builtin; refine wpList_app _ rfl (.tmp 15) (.tmp 17) 22 rfl w.heap.size 5 i0 (.int .u8 0) 1 1 Try.underlying22 hi hz0 hz1 hz2 rfl (by decide) _ _ _ rfl (ownsRow_empty w 5 1) w.heap.size A' (l.length - 1) (cap0 - 1) (t.map (Value.int .u8)) rfl (by simp; exact TL.out) (rt.keep ((Below.refl _ _).alloc (Nat.le_refl _) _)) (oneCell_ints _ _) (by unfold maxLen; omega) (by omega) (by simp) ?_; intro v1 w1' hown1 hgrow1 hat1)
      | (at_builtin; refine wpList_app _ rfl (.tmp 18) (.tmp 20) 22 rfl w.heap.size 5 i0 (.int .u8 0) 1 1 Try.underlying22 hi hz0 hz1 hz2 rfl (by decide) _ _ _ rfl (hown1.alloc _) (w1'.heap.size + 1) (some ⟨w1'.heap.size, 0, none⟩) 1 1 [.int .u8 a1] rfl (by simp) (fun _ => ⟨_, rfl, by simp, cell_one_new _ _ _⟩) (by simp [Value.oneCell']) (by unfold maxLen; omega) (by omega) (by have := hgrow1.size; simp at this ⊢; omega) ?_; intro v2 w2 hown2 hgrow2 hat2))
    have hz1' : w.heap.size ≤ w1'.heap.size := by have := hgrow1.size; simp at this; omega
    have b1 : Below w.heap.size w w1' := ((Below.refl _ _).alloc (Nat.le_refl _) _).trans (below_app (ownsRow_empty w 5 1) hgrow1 (Nat.le_refl _) (by simp))
    have b2 : Below w.heap.size w w2 := (b1.alloc hz1' _).trans (below_app (hown1.alloc _) hgrow2 (Nat.le_refl _) (by simp; omega))
    rw [show 0 + (l.length - 1) + 1 = l.length by omega, show ([] : List Value) ++ t.map (Value.int .u8) ++ [.int .u8 a1] = (t ++ [a1]).map (Value.int .u8) by simp] at hown2
    obtain ⟨A2, c2, rfl, _, _⟩ := own_form hown2
    have r2 : Rd w2 w2.heap.size A2 (t ++ [a1]) := Rv.rd (Rv.of_own hown2 (Nat.le_refl _))
    have r1 : Rd w2 w2.heap.size (some ad) l := (hr.keep b2).more b2.size
    have e2 : (t ++ [a1]).length = l.length := by have := TL.out; simp; omega
    have y2 : Byt (t ++ [a1]) := by
      intro i
      rw [List.getElem?_append]
      split
      · have := hby (i + 1)
        rw [HL.out, List.getElem?_cons_succ] at this
        exact this
      · rcases Nat.eq_zero_or_pos (i - t.length) with h | h
        · simp [h]; exact w1
        · rw [List.getElem?_eq_none (by simp; omega)]; simp
    have hq : (rl (wk l) c a1 l.length == wk (t ++ [a1])) = true := by
      rw [beq_iff_eq, HL.out]; exact rl_wk c a1 t
    have c0' : w2.cell? ad = some (.int .u8 c) := (b2.cell hadB).trans (by rw [show ad.add 0 = ad from by simp [Addr.add]] at c0; exact c0)
    have hlp' : 0 < l.length := by omega
    have hadB' : ad.block < w2.heap.size := by have := b2.size; omega
    have E2 := Lib.hid e2
    have hwl := wk_bd l
    have hlp : (0 : Int) < l.length := by omega
    generalize t ++ [a1] = l2 at r2 y2 hq E2
    clear hown1 hown2 hgrow1 hgrow2 hat1 hat2 b1 e2 c0 hsl rt d1 d2 hr hadB TL
    go_region_held3 (fun W' => W'.cell? ad = some (.int .u8 c) ∧ Below w2.heap.size w2 W')
      (first
        | exact ⟨c0', (Below.refl _ _).drew⟩
        | (go_split_ands; refine ⟨?_, ?_⟩ <;> assumption)
        | (go_split_ands; exact ⟨(Below.cell ‹Below (World.heap _).size _ _› (Nat.lt_of_lt_of_le hadB' (Below.size ‹Below w2.heap.size w2 _›))).trans ‹_›, Below.trans ‹Below w2.heap.size w2 _› (Below.mono ‹_› (Below.size ‹Below w2.heap.size w2 _›))⟩))
      (first
        | (go_at_call 8; ((with_reducible refine (Sum_len l.length (some ad) cap0 l _ rfl ?_ hby (by omega)).mono ?_)); (go_split_ands; exact (r1.keep ‹_›).more (Below.size ‹Below w2.heap.size w2 _›)); rintro e w3 ⟨rfl, hb3⟩)
        | (go_at_call 8; ((with_reducible refine (Sum_len l.length A2 c2 l2 _ E2.out ?_ y2 (by omega)).mono ?_)); (go_split_ands; exact (r2.keep ‹_›).more (Below.size ‹Below w2.heap.size w2 _›)); rintro e w4 ⟨rfl, hb4⟩)
        | (go_at_call 10; refine (Roll_any _ _ _ _ _ (by omega) (by omega) (by omega) (by omega) (by omega) (by omega)).mono ?_; rintro e w5 ⟨rfl, hb5⟩)
        | (go_at_call 7; refine (live_any _).mono ?_; rintro e w6 ⟨rfl, hb6⟩))
    go_split_ands
    have hfin : Below w2.heap.size w2 w6 := by assumption
    go_wp2_with fail
    go_ret
    exact ⟨rfl, b2.trans (hfin.mono b2.size)⟩

/-! ### THE ROW's STEP: WRITTEN OUT: LEAVE IT -/
set_option maxRecDepth 100000 in
theorem lifted (os : Os) (started : os.Started) (H : Type) (enc : TypeId × Value → H) :
    ReturnsInHanded {} Try.checked os 6 .any (Rows.weakAlongSpec.pre6 enc Try.prog Try.f6 Rows.weakAlongRow.domain false) (Rows.weakAlongSpec.post enc Try.prog Try.f6 false true false false) := by
  refine returnsInHanded_of_change (C := Try.checked) own started (by kernel_rfl) Try.func6
    (ChangeSpec.witness6 (enc := enc) (C := Try.checked) false ⟨#[], #[.slice none 0 0, .int .u8 0], []⟩ 8 (by kernel_rfl) (by kernel_rfl) (by kernel_rfl) (by kernel_rfl)) ?_
  intro W base args ds gs before hval0 hW hcnd _
  have hval : ∀ (j : Nat) t v, Try.f6.params[j]? = some t → args[j]? = some v → Value.okWide Try.prog W .any base t v := hval0
  have hW' := hW
  obtain ⟨p, q, hA0, hV, rfl, hfz, hnd⟩ := hW
  have hA : DataW.TrodAll enc Try.prog W 0 (fun _ => true) true Try.f6.params.toList args.toList ds p := hA0
  rw [Try.params6] at hA hval
  obtain ⟨v0, vs0, d0, ds0, p0, q0, hargs, rfl, rfl, h0, r0⟩ := trodAll_cons hA
  obtain ⟨v1, vs1, d1, ds1, p1, q1, rfl, rfl, rfl, h1, r1⟩ := trodAll_cons r0
  obtain ⟨rfl, rfl, rfl⟩ := trodAll_nil r1
  obtain rfl : args = #[v0, v1] := by cases args; simp_all
  obtain ⟨rfl, rfl⟩ := trodVars_none hV
  obtain ⟨a0, len0, cap0, rfl⟩ := okWide_slice Try.underlying22 (hval 0 22 v0 rfl rfl)
  have k0 := h0
  have lt0 : ∀ x ∈ p0, x.block < W.heap.size := by obtain ⟨m, hm⟩ := k0; exact DataW.trod_lt m _ _ _ hm
  obtain ⟨z0, w0⟩ : ∃ zs, IsRow .u8 W a0 len0 cap0 zs := by
    obtain ⟨fuel, hf⟩ := h0
    rcases open_ints Try.underlying22 Try.underlying5 (by kernel_rfl) hf with ⟨hcs, _⟩ | ⟨x, l, c, zs, hcs, _, hl, hm, hz, _, hcell, hwz⟩
    · simp [Value.cells] at hcs
      obtain ⟨rfl, rfl, rfl⟩ := hcs
      exact ⟨[], .inl ⟨rfl, rfl, rfl, rfl⟩⟩
    · simp [Value.cells] at hcs
      obtain ⟨rfl, rfl, rfl⟩ := hcs
      exact ⟨zs, .inr ⟨_, rfl, hl, hm, by simpa using hz, hcell, hwz⟩⟩
  obtain ⟨a1, rfl, rfl, rfl, w1⟩ := open_int Try.underlying5 (hval 1 5 v1 rfl rfl) h1
  clear hA0 hval0
  refine (walk a0 len0 cap0 z0 a1 W w0 w1).mono fun e W' ⟨he, bel⟩ => ?_
  subst he
  exact ⟨_, rfl, _, _, _, [], _, [], hW', trodAll_mk1 (shut_bool Try.underlying4 _), (trodAll_cons_mk (Below.trod laidOut (by kernel_rfl) (of_decide_eq_true (by kernel_rfl)) k0 bel lt0) (trodAll_cons_mk (shut_int Try.underlying5 w1) trodAll_mk0)), rfl, bel.frame _, fun h => by cases h⟩

theorem over : Rows.weakAlongRow.holds Try.pinned (OpenSpec.ofChange Rows.weakAlongSpec) :=
  OpenClaim.holds_of_wide 6 Try.f6 rfl rfl rfl rfl rfl rfl rfl ⟨rfl, rfl, rfl, rfl, rfl⟩ rfl rfl rfl rfl rfl (by kernel_rfl) Try.func6 (by kernel_rfl)
    (of_decide_eq_true (by kernel_rfl)) (by unfold Func.isWrapper; first | (rw [if_pos (by decide +kernel)]; kernel_rfl) | (rw [if_neg (by decide +kernel)]; exact ⟨rfl, rfl⟩))
    (fun os started H enc _ => lifted os started H enc)

/-- ████ THE STATEMENT ████ -/
theorem proved : Rows.WeakAlongSaid := over
#print axioms proved
end Go.Proofs.Ytbnoihmdgclkmaa.weakAlong
