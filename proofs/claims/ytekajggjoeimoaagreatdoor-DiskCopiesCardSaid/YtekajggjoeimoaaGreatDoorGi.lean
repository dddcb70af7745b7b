/- alike, walked. small: may deeds be asked here? Disks beside each other: each with blocks of its own; a deed on one of them. DiskDoes, walked. What comes in: a slice of deeds. -/
import Derived.Test.YtekajggjoeimoaaGreatDoorGh
import Derived.Outline
import Derived.BigQuiet
import Derived.Test.YtekajggjoeimoaaGreatDoorHd
import Derived.ProofKit
import Derived.OpenShut
import Derived.ChangeOld
import Derived.Deep.Slices
import Derived.Deep.Fields
import Derived.ChangeSame
import Derived.Lib.SmallJoins
import Derived.SizedLaws
set_option linter.unusedVariables false
namespace Go.Proofs.YtekajggjoeimoaaGreatDoor
open Go.RowKit
theorem name_find {D : List En} (hn : (names D).Nodup) {k : Nat} {b : ByteArray} (hb : (bN D)[k]? = some b) : ∃ i, findP b D = some i := by
  unfold bN at hb
  obtain ⟨x, hx, rfl⟩ := List.mem_map.1 (List.mem_of_getElem? hb)
  obtain ⟨e, he, rfl⟩ := List.mem_map.1 ((sN_perm D).mem_iff.1 hx)
  exact ⟨e.id, by simpa using findP_of_mem hn he⟩
theorem PD.wf {X : Nat → Prop} {w : World} {db : Nat} {p : DP} (h : PD X w db p) : WF p := by
  obtain ⟨M1, M2, v3, v4, q, fs, V, C, fb, hD, hF, ht⟩ := h
  exact ht.wf
theorem failP_arm (p : DP) (c : Int) : failP (armP p (-1) c) = (0, armP p (-1) c) := rfl
theorem readP_arm (p : DP) (c : Int) (nm : ByteArray) (n : Int) : readP (armP p (-1) c) nm n = ((lookP p nm n).1, (lookP p nm n).2, armP p (-1) c) := rfl
theorem lookP_in {p : DP} {nm : ByteArray} {i m : Nat} (hf : findP nm p.now = some i) (hm : m < (p.file i).length) : lookP p nm m = (0, (p.cont i).getD m ByteArray.empty) := by
  unfold lookP
  rw [hf]
  show (if (m : Int) < 0 ∨ ((p.file i).length : Int) ≤ m then _ else _) = _
  rw [if_neg (by omega)]
  rfl
theorem StrOr.below {w w' : World} {v : Value} {s : ByteArray} (h : StrOr w v s) (hb : Below w.heap.size w w') : StrOr w' v s := h.imp (fun h => h.heap (fun g hg _ _ _ => hb.block g hg) hb.size) id
/-- The copy, that is read; what was there. -/
def AlkRel (w4 : World) (cb : Nat) (p : DP) (wr : World) : Prop := Below w4.heap.size w4 wr ∧ ∃ X5 : Nat → Prop, (∀ k, X5 k → w4.heap.size ≤ k) ∧ PA X5 wr cb (armP p (-1) 0)
section
variable {X X2 : Nat → Prop} {w w4 wr w' : World} {db rb cb : Nat} {p : DP}
theorem alk_of (hb : Below w4.heap.size w4 wr) (hX : ∀ k, X k → w4.heap.size ≤ k) (hl : PL X wr cb (armP p (-1) 0) w') (hc : p.chs.length ≤ 1000) (hw : p.wrs.length ≤ 1000) : AlkRel w4 cb p w' :=
  ⟨hb.trans (Fr.below hl.2 hb.size hX), _, fun k hk => hk.1.elim (hX k) (fun h => Nat.le_trans hb.size h), hl.1.bound, fun k hk => hk.2, by show (-1 : Int) ≤ _; omega, hc, hw⟩
theorem AlkRel.below (h : AlkRel w4 cb p wr) (hb : Below wr.heap.size wr w') : AlkRel w4 cb p w' := by
  obtain ⟨h1, X5, h2, h3⟩ := h
  exact ⟨h1.trans (hb.mono h1.size), X5, h2, h3.below hb⟩
set_option maxHeartbeats 4000000 in
set_option maxRecDepth 100000 in
theorem alike_0 (h : PA X w db p) (h2 : RA X2 w rb p) :
    Calls Tryz.prog 14 #[.pointer (some ⟨db, 0, none⟩), .pointer (some ⟨rb, 0, none⟩)] w fun e w' => e = .returned (.bool true) ∧ Below w.heap.size w w' := by
  have hN := pd_names h.pd
  have hR : ∀ W, Below w.heap.size w W → _ := fun W hb => rd_names (h2.below hb)
  have hP : ∀ W, Below w.heap.size w W → _ := fun W hb => pd_pending (h.below hb).pd
  have hQ : ∀ W, Below w.heap.size w W → _ := fun W hb => rd_pending (h2.below hb).rd
  have hC : ∀ W, Below w.heap.size w W → _ := fun W hb => pd_copy (h.below hb)
  go_enter Tryz.func14, Tryz.ntmps14
  go_wp2_with (first
    | (go_at_call 45; refine hN.mono ?_; rintro e w1 ⟨v1, rfl, ho1, hb1⟩; obtain ⟨Aa, ca, rfl⟩ := own_formS ho1)
    | (go_at_call 46; refine (hR _ hb1).mono ?_; rintro e w2 ⟨v2, rfl, ho2, hb2⟩; obtain ⟨Ab, cb2, rfl⟩ := own_formS ho2; have hb2' := hb1.trans (hb2.mono hb1.size))
    | (go_at_call 47; refine (hP _ hb2').mono ?_; rintro e w3 ⟨rfl, hb3⟩; have hb3' := hb2'.trans (hb3.mono hb2'.size))
    | (go_at_call 48; refine (hQ _ hb3').mono ?_; rintro e w4 ⟨rfl, hb4⟩; have hb4' := hb3'.trans (hb4.mono hb3'.size))
    | (go_at_call 15; refine (hC _ hb4').mono ?_; rintro e w5 ⟨cb, rfl, hc5, hb5⟩; have hpa : PA (fun k => w4.heap.size ≤ k ∧ k < w5.heap.size) w5 cb p := ⟨hc5.bound, fun k hk => hk.2, h.after, h.chs, h.wrs⟩)
    | (go_at_call 34; refine (pd_arm hpa (-1) 0).mono ?_; rintro e w6 ⟨rfl, hL6⟩; have hk6 := alk_of hb5 (fun k hk => hk.1) hL6 h.chs h.wrs))
  have h8 := h.pd.wf.now.len
  have hne := h.pd.wf.now.nodup
  have hln : (bN p.now).length = p.now.length := by unfold bN; rw [List.length_map, sN_len]
  rw [bN_val] at ho1 ho2
  rw [sN_len] at ho1 ho2 ⊢
  obtain ⟨D, hD⟩ : ∃ D, p.now = D := ⟨_, rfl⟩
  rw [hD] at ho1 ho2 h8 hne hln ⊢
  have HO := Lib.hid (And.intro ho1 (And.intro ho2 (And.intro hb1 (And.intro hb2 (And.intro hb2' (And.intro hb3 (And.intro hb4 hb4')))))))
  have HD := Lib.hid (And.intro hD (And.intro hne hln))
  have h24 : Below w2.heap.size w2 w4 := hb3.trans (hb4.mono hb3.size)
  have h14 : Below w1.heap.size w1 w4 := hb2.trans (h24.mono hb2.size)
  have HB := Lib.hid (And.intro h14 h24)
  clear ho1 ho2 hD hne hln hN hR hP hQ hC hb1 hb2 hb2' hb3 hb3' hb4 hb5 hc5 hpa hL6 h14 h24
  go_loopw [12] (fun i wr => AlkRel w4 cb p wr ∧ ∃ k : Nat, k ≤ D.length ∧ i = .int .i64 k) (fun i _ => D.length - (intOf i).toNat)
  case atStart => exact ⟨hk6, 0, Nat.zero_le _, rfl⟩
  case round =>
    obtain ⟨hk, k, hkl, rfl⟩ := hrel
    clear hk6
    obtain ⟨wo, rfl⟩ : ∃ wo, wo = wr := ⟨wr, rfl⟩
    by_cases hlt : k < D.length
    · have d1 : decide (k < D.length) = true := by simpa using hlt
      obtain ⟨ga, rfl, _, _, hca⟩ := out_cell HO.out.1 (by omega)
      obtain ⟨gb, rfl, _, _, hcb⟩ := out_cell HO.out.2.1 (by omega)
      obtain ⟨nm, hnm⟩ : ∃ nm, (bN D)[k]? = some nm := ⟨_, List.getElem?_eq_getElem (by have := HD.out.2.2; omega)⟩
      obtain ⟨id, hid⟩ := name_find HD.out.2.1 hnm
      have e1 := hca wo (HB.out.1.trans (hk.1.mono HB.out.1.size)) k nm hnm
      have e2 := hcb wo (HB.out.2.trans (hk.1.mono HB.out.2.size)) k nm hnm
      have hbw : Below w.heap.size w wo := hb4'.trans (hk.1.mono hb4'.size)
      have hfd : findP nm p.now = some id := by rw [HD.out.1]; exact hid
      have hL := pd_len (h.below hbw).pd hfd
      have hL2 := fun W hb => rd_len (h2.below (hbw.trans (Below.mono (w := wo) (w' := W) hb hbw.size))) hfd
      have k0 : (0 : Int) ≤ (k : Int) := by omega
      have k1 : (k : Int) < (D.length : Int) := by omega
      clear hca hcb
      go_wp2_with (first
        | (go_at_call 49; refine hL.mono ?_; rintro e w7 ⟨rfl, rfl⟩)
        | (go_at_call 50; refine (hL2 _ (Below.refl _ _)).mono ?_; rintro e w8 ⟨rfl, hb8⟩))
      have l1 := World.block_lt_of_cell? wo _ e1
      have l2 := World.block_lt_of_cell? wo _ e2
      have e3 := (hb8.cell (p := ⟨ga, k, none⟩) l1).trans e1
      have e4 := (hb8.cell (p := ⟨gb, k, none⟩) l2).trans e2
      have d2 : (nm.toList != nm.toList) = false := by simp [bne, tl_eq]
      have hk8 := hk.below hb8
      have HK := Lib.hid (And.intro hk8 (And.intro hb8 (And.intro hk (And.intro hbw (And.intro hfd (And.intro l1 l2))))))
      clear hk8 hb8 hk hbw hfd hL hL2 l1 l2 e1 e2
      go_quiet (exact Calls.quiet_of_same ((told_none _ _ _).mono (fun e w' h => ⟨h.1, h.2.symm⟩)))
      go_wp2
      have hd8 : AlkRel w4 cb p (w8.drewN nq) := HK.out.1.below ⟨rfl, rfl, rfl, Nat.le_refl _, fun _ _ => rfl⟩
      clear e3 e4 d2
      go_loopw [17] (fun s wr => AlkRel w4 cb p wr ∧ ∃ m : Nat, m ≤ (p.file id).length ∧ s = .int .i64 m) (fun s _ => (p.file id).length - (intOf s).toNat)
      case atStart => exact ⟨hd8, 0, Nat.zero_le _, rfl⟩
      case round =>
        obtain ⟨hk9, m, hml, rfl⟩ := hrel
        clear hd8
        obtain ⟨wm, rfl⟩ : ∃ wm, wm = wr := ⟨wr, rfl⟩
        have hfl := h.pd.wf.file_len id
        by_cases hlt2 : m < (p.file id).length
        · have d2 : decide (m < (p.file id).length) = true := by simpa using hlt2
          obtain ⟨ga', hga, _, _, hca⟩ := out_cell HO.out.1 (by omega)
          simp only [Option.some.injEq, Addr.mk.injEq] at hga
          obtain ⟨rfl, _, _⟩ := hga
          have HC := Lib.hid (And.intro (fun W (hb : Below w4.heap.size w4 W) => hca W (HB.out.1.trans (hb.mono HB.out.1.size)) k nm hnm) hk9)
          have hlk := lookP_in (p := p) (nm := nm) (m := m) HK.out.2.2.2.2.1 hlt2
          have e1 := HC.out.1 wm hk9.1
          obtain ⟨hb9, X5, hX5, hpa⟩ := hk9
          have hR := pd_read hpa nm m
          rw [readP_arm] at hR
          rw [hlk] at hR
          have hLk : ∀ W, Below w4.heap.size w4 W → _ := fun W hb => rd_look (h2.below (hb4'.trans (hb.mono hb4'.size))) nm m
          rw [hlk] at hLk
          obtain ⟨ct, hct⟩ : ∃ ct, (p.cont id).getD m ByteArray.empty = ct := ⟨_, rfl⟩
          rw [hct] at hR hLk
          have dc : (ct.toList != ct.toList) = false := by simp [bne, tl_eq]
          have HL := Lib.hid (And.intro hLk (And.intro hb9 (And.intro hX5 hR)))
          clear hLk hb9 hX5 hpa hR hca hlk
          go_wp2_with (first
            | (go_at_call 26; refine HL.out.2.2.2.mono ?_; rintro e w9 ⟨⟨v, u, rfl, hS, hE⟩, hL⟩; have hk9 := alk_of HL.out.2.1 HL.out.2.2.1 hL h.chs h.wrs; obtain rfl : u = .nilIface := hE.elim (fun h => h.2) (fun h => absurd rfl h.1); have e9 := HC.out.1 w9 hk9.1)
            | (go_at_call 51; refine (HL.out.1 _ hk9.1).mono ?_; rintro e w10 ⟨⟨v2, rfl, hS2⟩, hb10⟩; have hk10 := hk9.below hb10; have e10 := HC.out.1 w10 hk10.1; have q1 := StrOr.conv (hS.below hb10) Tryz.underlying9; have q2 := StrOr.conv hS2 Tryz.underlying9)
            | (go_at_call 11; refine (told_none _ _ _).mono ?_; rintro e w11 ⟨rfl, rfl⟩))
          go_roundw
          case rel => exact ⟨hk10, m + 1, by omega, by go_num⟩
          case measure => simp [intOf]; omega
        · obtain rfl : m = (p.file id).length := by omega
          have d2 : decide ((p.file id).length < (p.file id).length) = false := by simp
          go_wp2
          go_roundw
          case rel => exact ⟨hk9, k + 1, by omega, by go_num⟩
          case measure => simp [intOf]; omega
    · obtain rfl : k = D.length := by omega
      have d1 : decide (D.length < D.length) = false := by simp
      go_wp2
      go_ret
      exact ⟨rfl, hb4'.trans (hk.1.mono hb4'.size)⟩
end
end Go.Proofs.YtekajggjoeimoaaGreatDoor
set_option linter.unusedVariables false
namespace Go.Proofs.YtekajggjoeimoaaGreatDoor
open Go.RowKit
/-- A deed, with where its rows lie. -/
structure Dm where
  d : Dd
  Ap : Option Addr
  cp : Nat
  Ak : Option Addr
  ck : Nat
/-- A row that can be read, as long as what is below B stays. -/
def RdB (B : Nat) (w : World) (A : Option Addr) (n : Nat) (news : List Value) : Prop := ∀ W, Below B w W → Reads W W.heap.size 1 A n news
/-- A deed in memory. -/
structure DdAt (B : Nat) (w : World) (ad : Addr) (x : Dm) : Prop where
  c0 : w.cell? ad = some (.int .i64 x.d.kind)
  c1 : w.cell? ⟨ad.block, ad.off + 1, none⟩ = some (.string x.d.a)
  c2 : w.cell? ⟨ad.block, ad.off + 2, none⟩ = some (.string x.d.b)
  c3 : w.cell? ⟨ad.block, ad.off + 3, none⟩ = some (.int .i64 x.d.n)
  c4 : w.cell? ⟨ad.block, ad.off + 4, none⟩ = some (.slice x.Ap x.d.p.size x.cp)
  c5 : w.cell? ⟨ad.block, ad.off + 5, none⟩ = some (.slice x.Ak x.d.keep.length x.ck)
  rp : RdB B w x.Ap x.d.p.size (bvals x.d.p)
  rk : RdB B w x.Ak x.d.keep.length (x.d.keep.map (.int .i64))
  n : -9223372036854775808 ≤ x.d.n ∧ x.d.n ≤ 9223372036854775807
  sa : x.d.a.size ≤ 140737488351232
  sb : x.d.b.size ≤ 140737488351232
  sp : x.d.p.size ≤ 140737488351232
  sk : x.d.keep.length ≤ 140737488351232
def DeedsAt (B : Nat) (w : World) (A : Option Addr) (ds : List Dm) : Prop := ∀ k d, ds[k]? = some d → ∃ ad, A = some ad ∧ ad.block < B ∧ DdAt B w (ad.add (k * 6)) d
theorem add_block (a : Addr) (n : Nat) : (a.add n).block = a.block := by unfold Addr.add; split <;> rfl
theorem DeedsAt.below {B : Nat} {w w' : World} {A : Option Addr} {ds : List Dm} (h : DeedsAt B w A ds) (hb : Below B w w') : DeedsAt B w' A ds := fun k d hd => by
  obtain ⟨ad, e, hl, h1⟩ := h k d hd
  have hk : (ad.add (k * 6)).block < B := by rw [add_block]; exact hl
  exact ⟨ad, e, hl, (hb.cell hk).trans h1.c0, (hb.cell (p := ⟨_, _, none⟩) hk).trans h1.c1, (hb.cell (p := ⟨_, _, none⟩) hk).trans h1.c2, (hb.cell (p := ⟨_, _, none⟩) hk).trans h1.c3, (hb.cell (p := ⟨_, _, none⟩) hk).trans h1.c4, (hb.cell (p := ⟨_, _, none⟩) hk).trans h1.c5, fun W hW => h1.rp W (hb.trans hW), fun W hW => h1.rk W (hb.trans hW), h1.n, h1.sa, h1.sb, h1.sp, h1.sk⟩
/-- A deed that may be asked. -/
def Few (d : Dd) : Prop := d.a.size + d.b.size ≤ 4000 ∧ d.p.size ≤ 4000 ∧ d.keep.length ≤ 80
/-- What small answers. -/
def SmallR (ds : List Dm) (w : World) (e : Ending) (w' : World) : Prop := ∃ b, e = .returned (.bool b) ∧ Below w.heap.size w w' ∧ (b = true → ds.length ≤ 80 ∧ ∀ d ∈ ds, Few d.d)
set_option maxHeartbeats 16000000 in
set_option maxRecDepth 100000 in
theorem small_any {B : Nat} (A : Option Addr) (c : Nat) (ds : List Dm) (w : World) (hBw : B ≤ w.heap.size) (h : DeedsAt B w A ds) (hl : ds.length ≤ 9223372036854775807) : Calls Tryz.prog 7 #[.slice A ds.length c] w (SmallR ds w) := by
  have HD := Lib.hid h
  clear h
  go_enter Tryz.func7, Tryz.ntmps7
  go_wp2
  go_loopw [3, 4] (fun n i wr => Below w.heap.size w wr ∧ ∃ k m : Nat, k ≤ ds.length ∧ k ≤ 81 ∧ i = .int .i64 k ∧ n = .int .i64 m ∧ m ≤ 16000 ∧ ∀ j d, j < k → ds[j]? = some d → Few d.d) (fun _ i _ => ds.length - (intOf i).toNat)
  case atStart => exact ⟨Below.refl _ _, 0, 0, Nat.zero_le _, by omega, rfl, rfl, by omega, fun j d hj => absurd hj (by omega)⟩
  case round =>
    obtain ⟨hb, k, m, hk, hk1, rfl, rfl, hm, hall⟩ := hrel
    have HA := Lib.hid (And.intro hall hb)
    have hD := HD.out.below (hb.mono hBw)
    clear hall hb
    obtain ⟨wo, rfl⟩ : ∃ wo, wo = wr := ⟨wr, rfl⟩
    by_cases h1 : k < ds.length
    · have d1 : decide (k < ds.length) = true := by simpa using h1
      by_cases h2 : k ≤ 80
      · have d2 : decide ((k : Int) ≤ 80) = true := by simp; omega
        by_cases h3 : m ≤ 4000
        · have d3 : decide ((m : Int) ≤ 4000) = true := by simp; omega
          obtain ⟨x, hx⟩ : ∃ x, ds[k]? = some x := ⟨_, List.getElem?_eq_getElem h1⟩
          obtain ⟨ad, rfl, hadB, hX⟩ := hD k x hx
          obtain ⟨⟨kind, na, nb, nn, np, keep⟩, Ap, cp, Ak, ck⟩ := x
          have e0 : wo.cell? (ad.add (k * 6)) = some (.int .i64 kind) := hX.c0
          have e1 : wo.cell? ⟨(ad.add (k * 6)).block, (ad.add (k * 6)).off + 1, none⟩ = some (.string na) := hX.c1
          have e2 : wo.cell? ⟨(ad.add (k * 6)).block, (ad.add (k * 6)).off + 2, none⟩ = some (.string nb) := hX.c2
          have e3 : wo.cell? ⟨(ad.add (k * 6)).block, (ad.add (k * 6)).off + 3, none⟩ = some (.int .i64 nn) := hX.c3
          have e4 : wo.cell? ⟨(ad.add (k * 6)).block, (ad.add (k * 6)).off + 4, none⟩ = some (.slice Ap np.size cp) := hX.c4
          have e5 : wo.cell? ⟨(ad.add (k * 6)).block, (ad.add (k * 6)).off + 5, none⟩ = some (.slice Ak keep.length ck) := hX.c5
          have sa : na.size ≤ 140737488351232 := hX.sa
          have sb : nb.size ≤ 140737488351232 := hX.sb
          have sp : np.size ≤ 140737488351232 := hX.sp
          have sk : keep.length ≤ 140737488351232 := hX.sk
          have HX := Lib.hid (And.intro hx hX)
          clear hx hX hD
          have k0 : (0 : Int) ≤ (k : Int) := by omega
          have k1 : (k : Int) < (ds.length : Int) := by omega
          by_cases c1 : na.size + nb.size ≤ 4000
          · have qc1 : decide ((4000 : Int) < (na.size : Int) + (nb.size : Int)) = false := by simp; omega
            by_cases c2 : np.size ≤ 4000
            · have qc2 : decide ((4000 : Int) < (np.size : Int)) = false := by simp; omega
              by_cases c3 : keep.length ≤ 80
              · have qc3 : decide ((80 : Int) < (keep.length : Int)) = false := by simp; omega
                by_cases c4 : kind = 3
                · have qc4 : (kind == 3) = true := by simpa using c4
                  by_cases c5 : nn ≤ 100
                  · have qc5 : decide ((100 : Int) < nn) = false := by simp; omega
                    go_wp2
                    go_quiet (fail)
                    go_wp2
                    go_quiet (fail)
                    go_wp2
                    go_roundw
                    case rel => exact ⟨below_drewN HA.out.2 _, k + 1, m + na.size + nb.size + np.size, by omega, by omega, by go_num, by go_num, by omega, fun j d hj hd => by
                      by_cases e : j = k
                      · subst e; rw [HX.out.1] at hd; cases hd; exact ⟨c1, c2, c3⟩
                      · exact HA.out.1 j d (by omega) hd⟩
                    case measure => simp [intOf]; omega
                  · have qc5 : decide ((100 : Int) < nn) = true := by simp; omega
                    by_cases c6 : nn ≤ 4096
                    · have qc6 : decide (nn ≤ 4096) = true := by simp; omega
                      go_wp2
                      go_quiet (fail)
                      go_wp2
                      go_ret
                      exact ⟨false, rfl, below_drewN HA.out.2 _, fun e => by cases e⟩
                    · have qc6 : decide (nn ≤ 4096) = false := by simp; omega
                      go_wp2
                      go_quiet (fail)
                      go_wp2
                      go_quiet (fail)
                      go_wp2
                      go_roundw
                      case rel => exact ⟨below_drewN HA.out.2 _, k + 1, m + na.size + nb.size + np.size, by omega, by omega, by go_num, by go_num, by omega, fun j d hj hd => by
                        by_cases e : j = k
                        · subst e; rw [HX.out.1] at hd; cases hd; exact ⟨c1, c2, c3⟩
                        · exact HA.out.1 j d (by omega) hd⟩
                      case measure => simp [intOf]; omega
                · have qc4 : (kind == 3) = false := by simpa using c4
                  go_wp2
                  go_quiet (fail)
                  go_wp2
                  go_quiet (fail)
                  go_wp2
                  go_roundw
                  case rel => exact ⟨below_drewN HA.out.2 _, k + 1, m + na.size + nb.size + np.size, by omega, by omega, by go_num, by go_num, by omega, fun j d hj hd => by
                    by_cases e : j = k
                    · subst e; rw [HX.out.1] at hd; cases hd; exact ⟨c1, c2, c3⟩
                    · exact HA.out.1 j d (by omega) hd⟩
                  case measure => simp [intOf]; omega
              · have qc3 : decide ((80 : Int) < (keep.length : Int)) = true := by simp; omega
                go_wp2
                go_quiet (fail)
                go_wp2
                go_ret
                exact ⟨false, rfl, below_drewN HA.out.2 _, fun e => by cases e⟩
            · have qc2 : decide ((4000 : Int) < (np.size : Int)) = true := by simp; omega
              go_wp2
              go_quiet (fail)
              go_wp2
              go_ret
              exact ⟨false, rfl, below_drewN HA.out.2 _, fun e => by cases e⟩
          · have qc1 : decide ((4000 : Int) < (na.size : Int) + (nb.size : Int)) = true := by simp; omega
            go_wp2
            go_quiet (fail)
            go_wp2
            go_ret
            exact ⟨false, rfl, below_drewN HA.out.2 _, fun e => by cases e⟩
        · have d3 : decide ((m : Int) ≤ 4000) = false := by simp; omega
          by_cases h5 : ds.length ≤ 80
          · have d5 : decide ((ds.length : Int) ≤ 80) = true := by simp; omega
            go_wp2
            go_ret
            exact ⟨false, rfl, HA.out.2, fun e => by cases e⟩
          · have d5 : decide ((ds.length : Int) ≤ 80) = false := by simp; omega
            go_wp2
            go_ret
            exact ⟨false, rfl, HA.out.2, fun e => by cases e⟩
      · have d2 : decide ((k : Int) ≤ 80) = false := by simp; omega
        have d5 : decide ((ds.length : Int) ≤ 80) = false := by simp; omega
        go_wp2
        go_ret
        exact ⟨false, rfl, HA.out.2, fun e => by cases e⟩
    · obtain rfl : k = ds.length := by omega
      have d1 : decide (ds.length < ds.length) = false := by simp
      by_cases h5 : ds.length ≤ 80
      · have d5 : decide ((ds.length : Int) ≤ 80) = true := by simp; omega
        by_cases h3 : m ≤ 4000
        · have d3 : decide ((m : Int) ≤ 4000) = true := by simp; omega
          go_wp2
          go_ret
          exact ⟨true, rfl, HA.out.2, fun _ => ⟨h5, fun d hd => by
            obtain ⟨j, hj, e⟩ := List.mem_iff_getElem.1 hd
            exact HA.out.1 j d hj (by rw [List.getElem?_eq_getElem hj, e])⟩⟩
        · have d3 : decide ((m : Int) ≤ 4000) = false := by simp; omega
          go_wp2
          go_ret
          exact ⟨false, rfl, HA.out.2, fun e => by cases e⟩
      · have d5 : decide ((ds.length : Int) ≤ 80) = false := by simp; omega
        go_wp2
        go_ret
        exact ⟨false, rfl, HA.out.2, fun e => by cases e⟩
end Go.Proofs.YtekajggjoeimoaaGreatDoor
set_option linter.unusedVariables false
namespace Go.Proofs.YtekajggjoeimoaaGreatDoor
open Go.RowKit
/-- What the program's disk lies in; what the document's lies in. -/
def KD (w : World) (k : Nat) : Prop := (∃ cs t, (FT t ∨ DT t) ∧ w.heap[k]? = some (.cells cs t (0, 0))) ∨ ∃ es ck, w.heap[k]? = some (.map es ck)
def KR (w : World) (k : Nat) : Prop := ∃ cs t, RT t ∧ w.heap[k]? = some (.cells cs t (0, 0))
theorem kd_kr {w : World} {k : Nat} (h : KD w k) (h2 : KR w k) : False := by
  obtain ⟨cs2, t2, ht2, h2⟩ := h2
  rcases h with ⟨cs, t, ht, h⟩ | ⟨es, ck, h⟩
  · rw [h] at h2
    cases h2
    rcases ht with (e | e) | (e | e | e) <;> subst e <;> revert ht2 <;> unfold RT <;> decide
  · rw [h] at h2; cases h2
theorem kd_byte {w : World} {k : Nat} (h : KD w k) (cs : Array Value) : w.heap[k]? ≠ some (.cells cs 5 (0, 0)) := by
  intro h2
  rcases h with ⟨cs, t, ht, h⟩ | ⟨es, ck, h⟩
  · rw [h] at h2
    cases h2
    revert ht
    unfold FT DT
    decide
  · rw [h] at h2; cases h2
theorem kr_byte {w : World} {k : Nat} (h : KR w k) (cs : Array Value) : w.heap[k]? ≠ some (.cells cs 5 (0, 0)) := by
  obtain ⟨cs2, t2, ht2, h2⟩ := h
  intro h3
  rw [h2] at h3
  cases h3
  exact RT.byte ht2
section
variable {X X' Y : Nat → Prop} {w w' w1 w2 : World} {db rb n : Nat} {p p' : DP} {x : Dd}
theorem row_only {K : Nat → Prop} {e size n : Nat} {v : Value} {xs : List Value} (h : RowX X w e size v n xs) (hK : ∀ k cs, w.heap[k]? = some (.cells cs e (0, 0)) → K k) : RowX (fun k => X k ∧ K k) w e size v n xs :=
  ⟨h.1, fun k hk => ⟨h.2 k hk, by obtain ⟨cur, h1⟩ := h.block hk; exact hK k _ h1⟩⟩
theorem PD.only (h : PD X w db p) : PD (fun k => X k ∧ KD w k) w db p := by
  obtain ⟨M1, M2, v3, v4, q, fs, V, C, fb, hD, hF, ht⟩ := h
  refine ⟨M1, M2, v3, v4, q, fs, V, C, fb, ⟨hD.blk, hD.m1, hD.m2, hD.ne, ⟨hD.inX, .inl ⟨_, _, .inr (.inl rfl), hD.blk⟩⟩, ⟨hD.inX1, .inr ⟨_, _, hD.m1⟩⟩, ⟨hD.inX2, .inr ⟨_, _, hD.m2⟩⟩, hD.ok1, hD.ok2, row_only hD.chs (fun k cs hk => .inl ⟨_, _, .inr (.inr (.inl rfl)), hk⟩), row_only hD.wrs (fun k cs hk => .inl ⟨_, _, .inr (.inr (.inr rfl)), hk⟩)⟩, ⟨hF.blk, fun f hf => ⟨hF.inX f hf, .inl ⟨_, _, .inl (.inl rfl), hF.blk f hf⟩⟩, fun f hf b => row_only (hF.row f hf b) (fun k cs hk => .inl ⟨_, _, .inl (.inr rfl), hk⟩), hF.inj⟩, ht⟩
theorem RD.only (h : RD X w rb p) : RD (fun k => X k ∧ KR w k) w rb p := by
  obtain ⟨vd, vc, vf, vw, V, L, W, hv⟩ := h
  exact ⟨vd, vc, vf, vw, V, L, W, hv.only⟩
theorem KD.lt {k : Nat} (h : KD w k) : k < w.heap.size := by
  rcases h with ⟨cs, t, _, h⟩ | ⟨es, ck, h⟩ <;> exact (Array.getElem?_eq_some_iff.1 h).1
theorem KR.lt {k : Nat} (h : KR w k) : k < w.heap.size := by
  obtain ⟨cs, t, _, h⟩ := h
  exact (Array.getElem?_eq_some_iff.1 h).1
theorem KD.off {k : Nat} (h : KD w k) (hf : Fr Y w w') (hy : ¬ Y k) : KD w' k := h.imp (fun ⟨cs, t, ht, h⟩ => ⟨cs, t, ht, hf.heap h hy⟩) (fun ⟨es, ck, h⟩ => ⟨es, ck, hf.heap h hy⟩)
theorem KR.off {k : Nat} (h : KR w k) (hf : Fr Y w w') (hy : ¬ Y k) : KR w' k := by
  obtain ⟨cs, t, ht, h⟩ := h
  exact ⟨cs, t, ht, hf.heap h hy⟩
/-- How many there are, at most. -/
structure Cnt (p : DP) (n : Nat) : Prop where
  after : p.after ≤ 9223372036854775807
  chs : p.chs.length ≤ n
  wrs : p.wrs.length ≤ n
  fls : p.files.length ≤ n
theorem Cnt.mono {n' : Nat} (h : Cnt p n) (hn : n ≤ n') : Cnt p n' := ⟨h.after, Nat.le_trans h.chs hn, Nat.le_trans h.wrs hn, Nat.le_trans h.fls hn⟩
theorem Cnt.fail (h : Cnt p n) : Cnt (failP p).2 n := by
  obtain ⟨h1, h2, h3, h4, h5⟩ := failP_files p
  refine ⟨?_, by rw [h2]; exact h.chs, by rw [h4]; exact h.wrs, by rw [h1]; exact h.fls⟩
  have := h.after
  unfold failP
  split
  · exact this
  · split
    · show p.after - 1 ≤ _; omega
    · exact this
theorem Cnt.doP (h : Cnt p n) (hx : x.n ≤ 9223372036854775807) : Cnt (Go.Proofs.YtekajggjoeimoaaGreatDoor.doP p x).2.2 (n + 1) := by
  have hf := h.fail
  have hs := hf.mono (Nat.le_succ n)
  have h1 := hf.chs
  have h2 := hf.wrs
  have h3 := hf.fls
  unfold Go.Proofs.YtekajggjoeimoaaGreatDoor.doP
  split
  · simp only [createP]; split; exact hs; split; exact hs; split; exact hs; split; exact hs; exact ⟨hf.after, by simp; omega, by show (failP p).2.wrs.length ≤ _; omega, by simp; omega⟩
  · split
    · simp only [removeP]; split; exact hs; split; exact hs; exact ⟨hf.after, by simp; omega, by show (failP p).2.wrs.length ≤ _; omega, by show (failP p).2.files.length ≤ _; omega⟩
    · split
      · simp only [renameP]; split; exact hs; split; exact hs; split; exact hs; exact ⟨hf.after, by simp; omega, by show (failP p).2.wrs.length ≤ _; omega, by show (failP p).2.files.length ≤ _; omega⟩
      · split
        · simp only [growP]; split; exact hs; split; exact hs; split; exact hs; split; exact hs; exact ⟨hf.after, by show (failP p).2.chs.length ≤ _; omega, by show (failP p).2.wrs.length ≤ _; omega, by simp; omega⟩
        · split
          · simp only [writeP]; split; exact hs; split; exact hs; split; exact hs; split; exact hs; exact ⟨hf.after, by show (failP p).2.chs.length ≤ _; omega, by simp; omega, by show (failP p).2.files.length ≤ _; omega⟩
          · split
            · simp only [readP]; split; exact hs; exact hs
            · split
              · simp only [syncP]; split; exact hs; split; exact hs
                refine ⟨hf.after, by show (failP p).2.chs.length ≤ _; omega, ?_, by simp; omega⟩
                have := List.length_filter_le (fun y : PW => decide (y.id ≠ ‹Nat›)) (failP p).2.wrs
                exact Nat.le_trans this (by omega)
              · split
                · simp only [syncdirP]; split; exact hs; exact ⟨hf.after, by simp, by show (failP p).2.wrs.length ≤ _; omega, by show (failP p).2.files.length ≤ _; omega⟩
                · split
                  · have := h.chs; have := h.wrs; have := h.fls; exact ⟨hx, by show p.chs.length ≤ _; omega, by show p.wrs.length ≤ _; omega, by show p.files.length ≤ _; omega⟩
                  · split
                    · have := h.fls; exact ⟨h.after, by simp [crashP], by simp [crashP], by show (crashW x.keep 0 p.wrs p.files).length ≤ _; rw [crashW_len]; omega⟩
                    · exact h.mono (Nat.le_succ n)
/-- A disk of the program's, with blocks of its own. -/
structure Dk (X : Nat → Prop) (w : World) (db : Nat) (p : DP) (n : Nat) : Prop where
  pd : PD X w db p
  kind : ∀ k, X k → KD w k
  arm : ArmOK p
  cnt : Cnt p n
/-- A disk of the document's. -/
structure Rk (X : Nat → Prop) (w : World) (rb : Nat) (p : DP) (n : Nat) : Prop where
  rd : RD X w rb p
  wf : WF p
  kind : ∀ k, X k → KR w k
  cnt : Cnt p n
theorem Dk.pa (h : Dk X w db p n) (hn : n ≤ 1000) : PA X w db p := ⟨h.pd, fun k hk => (h.kind k hk).lt, h.cnt.after, Nat.le_trans h.cnt.chs hn, Nat.le_trans h.cnt.wrs hn⟩
theorem Rk.ra (h : Rk X w rb p n) (hn : n ≤ 1000) : RA X w rb p := ⟨h.rd, h.wf, fun k hk => (h.kind k hk).lt, fun k cs hk => kr_byte (h.kind k hk) cs, h.cnt.after, Nat.le_trans h.cnt.chs hn, Nat.le_trans h.cnt.wrs hn, Nat.le_trans h.cnt.fls hn⟩
theorem Dk.off (h : Dk X w db p n) (hf : Fr Y w w') (hY : ∀ k, X k → ¬ Y k) : Dk X w' db p n := ⟨h.pd.off (FrF.of_fr hf) hY, fun k hk => (h.kind k hk).off hf (hY k hk), h.arm, h.cnt⟩
theorem Rk.off (h : Rk X w rb p n) (hf : Fr Y w w') (hY : ∀ k, X k → ¬ Y k) (hb : ∀ k cs, Y k → w.heap[k]? ≠ some (.cells cs 5 (0, 0))) : Rk X w' rb p n := by
  obtain ⟨vd, vc, vf, vw, V, L, W, hv⟩ := h.rd
  exact ⟨⟨vd, vc, vf, vw, V, L, W, hv.keep (fun _ h => h) (Same.of_fr hf (fun k hx hy => absurd hy (hY k hx))) (KB.of_fr hf hb)⟩, h.wf, fun k hk => (h.kind k hk).off hf (hY k hk), h.cnt⟩
/-- The blocks are at or above B. -/
def Up (B : Nat) (X : Nat → Prop) : Prop := ∀ k, X k → B ≤ k
/-- What is new belongs to one. -/
def Sub (w : World) (X X' : Nat → Prop) : Prop := ∀ k, X' k → X k ∨ w.heap.size ≤ k
theorem Sub.trans {w1 : World} {X1 X2 : Nat → Prop} (h : Sub w X X1) (h2 : Sub w1 X1 X2) (hs : w.heap.size ≤ w1.heap.size) : Sub w X X2 := fun k hk => (h2 k hk).elim (h k) (fun h => .inr (Nat.le_trans hs h))
theorem Sub.up {B : Nat} (h : Sub w X X') (hX : Up B X) (hB : B ≤ w.heap.size) : Up B X' := fun k hk => (h k hk).elim (hX k) (fun h => Nat.le_trans hB h)
theorem Dk.only (h : PD X w db p) (ha : ArmOK p) (hc : Cnt p n) : Dk (fun k => X k ∧ KD w k) w db p n := ⟨h.only, fun k hk => hk.2, ha, hc⟩
theorem Rk.only (h : RD X w rb p) (hw : WF p) (hc : Cnt p n) : Rk (fun k => X k ∧ KR w k) w rb p n := ⟨h.only, hw, fun k hk => hk.2, hc⟩
theorem do_step {Ap Ak : Option Addr} {cp ck : Nat} (h : Dk X w db p n) (hn : n ≤ 1000) (hg : GlobAt w) (h0 : ¬ X 0) (hd : DdIn X w x Ap Ak) :
    Calls Tryz.prog 12 #[.pointer (some ⟨db, 0, none⟩), x.val Ap cp Ak ck] w fun e w' => e = .returned (.tuple #[.int .i64 (doP p x).1, .string (doP p x).2.1]) ∧ (∃ X', Dk X' w' db (doP p x).2.2 (n + 1) ∧ Sub w X X') ∧ Fr X w w' := by
  refine (do_any (h.pa hn) hg h0 h.arm hd).mono ?_
  rintro e w' ⟨rfl, h1, h2⟩
  exact ⟨rfl, ⟨_, Dk.only h1 (h.arm.doP x) (h.cnt.doP hd.n.2), fun k hk => hk.1⟩, h2⟩
theorem mo_step {Ap Ak : Option Addr} {cp ck : Nat} (h : Rk X w rb p n) (hn : n ≤ 1000) (hd : DmIn X w x Ap Ak) (hwf : WF (doP p x).2.2) (hx : x.n ≤ 9223372036854775807) :
    Calls Tryz.prog 13 #[.pointer (some ⟨rb, 0, none⟩), x.val Ap cp Ak ck] w fun e w' => e = .returned (.tuple #[.int .i64 (doP p x).1, .string (doP p x).2.1]) ∧ (∃ X', Rk X' w' rb (doP p x).2.2 (n + 1) ∧ Sub w X X') ∧ Fr X w w' := by
  refine (mo_any (h.ra hn) hd).mono ?_
  rintro e w' ⟨rfl, h1, h2⟩
  exact ⟨rfl, ⟨_, Rk.only h1 hwf (h.cnt.doP hx), fun k hk => hk.1⟩, h2⟩
theorem fr_below {B : Nat} (hf : Fr X w w') (hX : Up B X) (hB : B ≤ w.heap.size) : Below B w w' := Fr.below hf hB hX
theorem GlobAt.fr (hg : GlobAt w) (hf : Fr X w w') (h0 : ¬ X 0) : GlobAt w' := hg.off (FrF.of_fr hf) h0
end
end Go.Proofs.YtekajggjoeimoaaGreatDoor
set_option linter.unusedVariables false
namespace Go.Proofs.YtekajggjoeimoaaGreatDoor
open Go.RowKit
open Da
/-- Both disks, alike. -/
def Both (B : Nat) (w : World) (db rb : Nat) (p : DP) (n : Nat) : Prop := ∃ X1 X2, Dk X1 w db p n ∧ Up B X1 ∧ Rk X2 w rb p n ∧ Up B X2
/-- The program's is one deed ahead. -/
def Mid (B : Nat) (w : World) (db rb : Nat) (p p' : DP) (n : Nat) : Prop := ∃ X1 X2, Dk X1 w db p' (n + 1) ∧ Up B X1 ∧ Rk X2 w rb p n ∧ Up B X2
theorem DdAt.below {B : Nat} {w w' : World} {ad : Addr} {d : Dm} (h1 : DdAt B w ad d) (hb : Below B w w') (hk : ad.block < B) : DdAt B w' ad d :=
  ⟨(hb.cell hk).trans h1.c0, (hb.cell (p := ⟨_, _, none⟩) hk).trans h1.c1, (hb.cell (p := ⟨_, _, none⟩) hk).trans h1.c2, (hb.cell (p := ⟨_, _, none⟩) hk).trans h1.c3, (hb.cell (p := ⟨_, _, none⟩) hk).trans h1.c4, (hb.cell (p := ⟨_, _, none⟩) hk).trans h1.c5, fun W hW => h1.rp W (hb.trans hW), fun W hW => h1.rk W (hb.trans hW), h1.n, h1.sa, h1.sb, h1.sp, h1.sk⟩
section
variable {w w' : World} {db rb n B : Nat} {p p' : DP} {x : Dd} {Ap Ak : Option Addr} {cp ck : Nat}
theorem Both.below (h : Both B w db rb p n) (hb : Below w.heap.size w w') : Both B w' db rb p n := by
  obtain ⟨X1, X2, h1, h2, h3, h4⟩ := h
  exact ⟨X1, X2, h1.off (Fr.of_below (X := fun _ => False) hb) (fun _ _ h => h), h2, h3.off (Fr.of_below (X := fun _ => False) hb) (fun _ _ h => h) (fun _ _ h => h.elim), h4⟩
theorem Both.mono {B' : Nat} (h : Both B w db rb p n) (hB : B' ≤ B) : Both B' w db rb p n := by
  obtain ⟨X1, X2, h1, h2, h3, h4⟩ := h
  exact ⟨X1, X2, h1, fun k hk => Nat.le_trans hB (h2 k hk), h3, fun k hk => Nat.le_trans hB (h4 k hk)⟩
theorem ddin_of {X : Nat → Prop} (hp : RdB B w Ap x.p.size (bvals x.p)) (hk : RdB B w Ak x.keep.length (x.keep.map (.int .i64))) (hf : Few x) (hn : -9223372036854775808 ≤ x.n ∧ x.n ≤ 9223372036854775807) (hX : Up B X) (hB : B ≤ w.heap.size) : DdIn X w x Ap Ak :=
  ⟨fun W0 h => hp W0 (fr_below h hX hB), fun W0 h => hk W0 (fr_below h hX hB), by have := hf.1; omega, by have := hf.1; omega, by have := hf.2.1; omega, by have := hf.2.2; omega, hn⟩
theorem dmin_of {X : Nat → Prop} (hp : RdB B w Ap x.p.size (bvals x.p)) (hk : RdB B w Ak x.keep.length (x.keep.map (.int .i64))) (hf : Few x) (hX : Up B X) (hB : B ≤ w.heap.size) : DmIn X w x Ap Ak :=
  ⟨fun W0 h => hp W0 (fr_below h hX hB), fun W0 h => hk W0 (fr_below h hX hB), by have := hf.1; omega, by have := hf.1; omega, by have := hf.2.1; omega, by have := hf.2.2; omega⟩
theorem do_both (h : Both B w db rb p n) (hn : n ≤ 999) (h1 : 1 ≤ B) (hB : B ≤ w.heap.size) (hg : GlobAt w) (hp : RdB B w Ap x.p.size (bvals x.p)) (hk : RdB B w Ak x.keep.length (x.keep.map (.int .i64))) (hf : Few x) (hx : -9223372036854775808 ≤ x.n ∧ x.n ≤ 9223372036854775807) :
    Calls Tryz.prog 12 #[.pointer (some ⟨db, 0, none⟩), x.val Ap cp Ak ck] w fun e w' => e = .returned (.tuple #[.int .i64 (doP p x).1, .string (doP p x).2.1]) ∧ Mid B w' db rb p (doP p x).2.2 n ∧ GlobAt w' ∧ Below B w w' := by
  obtain ⟨X1, X2, hD, hU1, hR, hU2⟩ := h
  have h0 : ¬ X1 0 := fun h => by have := hU1 0 h; omega
  refine (do_step hD (by omega) hg h0 (ddin_of hp hk hf hx hU1 hB)).mono ?_
  rintro e w' ⟨rfl, ⟨X1', hD', hs⟩, hf'⟩
  exact ⟨rfl, ⟨X1', X2, hD', hs.up hU1 hB, hR.off hf' (fun k h2 h1 => kd_kr (hD.kind k h1) (hR.kind k h2)) (fun k cs hk => kd_byte (hD.kind k hk) cs), hU2⟩, hg.fr hf' h0, fr_below hf' hU1 hB⟩
theorem mo_both (h : Mid B w db rb p (doP p x).2.2 n) (hn : n ≤ 999) (h1 : 1 ≤ B) (hB : B ≤ w.heap.size) (hg : GlobAt w) (hp : RdB B w Ap x.p.size (bvals x.p)) (hk : RdB B w Ak x.keep.length (x.keep.map (.int .i64))) (hf : Few x) (hx : -9223372036854775808 ≤ x.n ∧ x.n ≤ 9223372036854775807) :
    Calls Tryz.prog 13 #[.pointer (some ⟨rb, 0, none⟩), x.val Ap cp Ak ck] w fun e w' => e = .returned (.tuple #[.int .i64 (doP p x).1, .string (doP p x).2.1]) ∧ Both B w' db rb (doP p x).2.2 (n + 1) ∧ GlobAt w' ∧ Below B w w' := by
  obtain ⟨X1, X2, hD, hU1, hR, hU2⟩ := h
  have h0 : ¬ X2 0 := fun h => by have := hU2 0 h; omega
  refine (mo_step hR (by omega) (dmin_of hp hk hf hU2 hB) hD.pd.wf hx.2).mono ?_
  rintro e w' ⟨rfl, ⟨X2', hR', hs⟩, hf'⟩
  exact ⟨rfl, ⟨X1, X2', hD.off hf' (fun k h1 h2 => kd_kr (hD.kind k h1) (hR.kind k h2)), hU1, hR', hs.up hU2 hB⟩, hg.fr hf' h0, fr_below hf' hU2 hB⟩
theorem alike_both (h : Both B w db rb p n) (hn : n ≤ 1000) :
    Calls Tryz.prog 14 #[.pointer (some ⟨db, 0, none⟩), .pointer (some ⟨rb, 0, none⟩)] w fun e w' => e = .returned (.bool true) ∧ Below w.heap.size w w' := by
  obtain ⟨X1, X2, hD, hU1, hR, hU2⟩ := h
  exact alike_0 (hD.pa hn) (hR.ra hn)
theorem cnt_new (room : Int) : Cnt (newP room) 0 := ⟨by show (0 : Int) ≤ _; omega, Nat.le_refl _, Nat.le_refl _, Nat.le_refl _⟩
theorem arm_new (room : Int) : ArmOK (newP room) := fun h => by cases h
end
theorem GlobAt.below {w w' : World} (hg : GlobAt w) (hb : Below w.heap.size w w') : GlobAt w' := (hb.cell (p := ⟨0, 0, none⟩) (World.block_lt_of_cell? w _ hg)).trans hg
theorem glob_lt {w : World} (hg : GlobAt w) : 1 ≤ w.heap.size := World.block_lt_of_cell? w _ hg
/-- A disk of each, new. -/
theorem both_new {w w1 w2 : World} {db rb : Nat} {room : Int} (h1 : PD (fun k => w.heap.size ≤ k) w1 db (newP room)) (hb1 : Below w.heap.size w w1) (h2 : RD (fun k => w1.heap.size ≤ k) w2 rb (newP room)) (hb2 : Below w1.heap.size w1 w2) : Both w.heap.size w2 db rb (newP room) 0 :=
  ⟨_, _, (Dk.only h1 (arm_new _) (cnt_new _)).off (Fr.of_below (X := fun _ => False) hb2) (fun _ _ h => h), fun k hk => hk.1, Rk.only h2 h1.wf (cnt_new _), fun k hk => Nat.le_trans hb1.size hk.1⟩
set_option maxHeartbeats 4000000 in
set_option maxRecDepth 100000 in
theorem does_any (room : Int) (A : Option Addr) (c : Nat) (ds : List Dm) (w : World) (hg : GlobAt w) (h : DeedsAt w.heap.size w A ds) (hl : ds.length ≤ 9223372036854775807) :
    Calls Tryz.prog 3 #[.int .i64 room, .slice A ds.length c] w fun e w' => e = .returned (.bool true) ∧ Below w.heap.size w w' := by
  have h1 := glob_lt hg
  go_enter Tryz.func3, Tryz.ntmps3
  go_wp2_with fail
  go_at_call 7
  refine (small_any A c ds w (Nat.le_refl _) h hl).mono ?_
  rintro e w1 ⟨b, rfl, hb1, hsm⟩
  have hg1 := hg.below hb1
  cases b
  · clear hsm
    go_wp2_with (go_at_call 8; refine (live_any hg1).mono ?_; rintro e w2 ⟨rfl, hb2⟩)
    go_ret
    exact ⟨rfl, hb1.trans (hb2.mono hb1.size)⟩
  · obtain ⟨hd, hdb⟩ := hsm rfl
    have hd' : ds.length ≤ 80 := hd
    have hs1 := hb1.size
    have HDB := Lib.hid (And.intro hdb (And.intro h (And.intro h1 (And.intro hb1 hs1))))
    clear hsm hdb h
    by_cases hr : 0 ≤ room ∧ room ≤ 4096
    · have hN := new_go w1 hr
      go_wp2_with (first
        | (go_at_call 9; refine hN.mono ?_; rintro e w2 ⟨⟨db, rfl, hP⟩, hb2⟩)
        | (go_at_call 10; refine (rnew_go w2 hr).mono ?_; rintro e w3 ⟨⟨rb, rfl, hR⟩, hb3⟩)
        | (go_at_call 11; refine (told_none _ _ _).mono ?_; rintro e w4 ⟨rfl, rfl⟩))
      have hBo := (both_new hP hb2 hR hb3).mono hs1
      have hB3 : Below w.heap.size w w3 := hb1.trans ((hb2.trans (hb3.mono hb2.size)).mono hs1)
      have hg3 := hg.below hB3
      clear hP hR hN hb1 hb2 hb3 hg1 hs1
      go_loopw [9] (fun i wr => Below w.heap.size w wr ∧ GlobAt wr ∧ ∃ (k : Nat) (p : DP), k ≤ ds.length ∧ i = .int .i64 k ∧ Both w.heap.size wr db rb p k) (fun i _ => ds.length - (intOf i).toNat)
      case atStart => exact ⟨hB3, hg3, 0, _, Nat.zero_le _, rfl, hBo⟩
      case round =>
        clear hB3 hg3 hBo
        obtain ⟨hB, hgr, k, p, hk, rfl, hBo⟩ := hrel
        obtain ⟨wo, rfl⟩ : ∃ wo, wo = wr := ⟨wr, rfl⟩
        by_cases hlt : k < ds.length
        · have d1 : decide (k < ds.length) = true := by simpa using hlt
          obtain ⟨x, hdk⟩ : ∃ x, ds[k]? = some x := ⟨_, List.getElem?_eq_getElem hlt⟩
          have hfew := HDB.out.1 x (List.mem_of_getElem? hdk)
          obtain ⟨ad, rfl, hadl, hX⟩ := (HDB.out.2.1.below hB) k x hdk
          obtain ⟨x, Ap, cp, Ak, ck⟩ := x
          have e0 : wo.cell? (ad.add (k * 6)) = some (.int .i64 x.kind) := hX.c0
          have e1 : wo.cell? ⟨(ad.add (k * 6)).block, (ad.add (k * 6)).off + 1, none⟩ = some (.string x.a) := hX.c1
          have e2 : wo.cell? ⟨(ad.add (k * 6)).block, (ad.add (k * 6)).off + 2, none⟩ = some (.string x.b) := hX.c2
          have e3 : wo.cell? ⟨(ad.add (k * 6)).block, (ad.add (k * 6)).off + 3, none⟩ = some (.int .i64 x.n) := hX.c3
          have e4 : wo.cell? ⟨(ad.add (k * 6)).block, (ad.add (k * 6)).off + 4, none⟩ = some (.slice Ap x.p.size cp) := hX.c4
          have e5 : wo.cell? ⟨(ad.add (k * 6)).block, (ad.add (k * 6)).off + 5, none⟩ = some (.slice Ak x.keep.length ck) := hX.c5
          have HX := Lib.hid (And.intro hX (And.intro hfew (And.intro hBo (And.intro hgr hB))))
          have hadk : (ad.add (k * 6)).block < w.heap.size := by rw [add_block]; exact hadl
          have hdo := do_both hBo (by omega) h1 hB.size hgr hX.rp hX.rk hfew hX.n (cp := cp) (ck := ck)
          have hmo : ∀ W, Below w.heap.size wo W → Mid w.heap.size W db rb p (doP p x).2.2 k → GlobAt W → _ := fun W hb hM hg => mo_both (cp := cp) (ck := ck) hM (by omega) h1 (Nat.le_trans hB.size hb.size |> fun h => h) hg (hX.below hb hadk).rp (hX.below hb hadk).rk hfew hX.n
          have hsd : ((doP p x).2.1.toList != (doP p x).2.1.toList) = false := by simp [bne, tl_eq]
          have HX := Lib.hid (And.intro hX (And.intro hadk (And.intro hmo hB)))
          clear hX hfew hBo hgr hmo hB
          dsimp only [Dd.val] at hdo
          go_wp2_with (first
            | (go_at_call 12; refine hdo.mono ?_; rintro e w2 ⟨rfl, hM, hg2, hb2⟩; have g0 : w2.cell? (ad.add (k * 6)) = some (.int .i64 x.kind) := (HX.out.1.below hb2 HX.out.2.1).c0; have g1 : w2.cell? ⟨(ad.add (k * 6)).block, (ad.add (k * 6)).off + 1, none⟩ = some (.string x.a) := (HX.out.1.below hb2 HX.out.2.1).c1; have g2 : w2.cell? ⟨(ad.add (k * 6)).block, (ad.add (k * 6)).off + 2, none⟩ = some (.string x.b) := (HX.out.1.below hb2 HX.out.2.1).c2; have g3 : w2.cell? ⟨(ad.add (k * 6)).block, (ad.add (k * 6)).off + 3, none⟩ = some (.int .i64 x.n) := (HX.out.1.below hb2 HX.out.2.1).c3; have g4 : w2.cell? ⟨(ad.add (k * 6)).block, (ad.add (k * 6)).off + 4, none⟩ = some (.slice Ap x.p.size cp) := (HX.out.1.below hb2 HX.out.2.1).c4; have g5 : w2.cell? ⟨(ad.add (k * 6)).block, (ad.add (k * 6)).off + 5, none⟩ = some (.slice Ak x.keep.length ck) := (HX.out.1.below hb2 HX.out.2.1).c5)
            | (go_at_call 13; refine (HX.out.2.2.1 _ hb2 hM hg2).mono ?_; rintro e w3 ⟨rfl, hBo3, hg3, hb3⟩)
            | (go_at_call 14; refine (alike_both hBo3 (by omega)).mono ?_; rintro e w4 ⟨rfl, hb4⟩))
          go_roundw
          case rel => exact ⟨((HX.out.2.2.2.trans hb2).trans hb3).trans (hb4.mono (((HX.out.2.2.2.trans hb2).trans hb3).size)), hg3.below hb4, k + 1, _, by omega, by go_num, hBo3.below hb4⟩
          case measure => simp [intOf]; omega
        · have d1 : decide (k < ds.length) = false := by simpa using hlt
          go_wp2_with (go_at_call 8; refine (live_any hgr).mono ?_; rintro e w2 ⟨rfl, hb2⟩)
          go_ret
          exact ⟨rfl, hB.trans (hb2.mono hB.size)⟩
    · have hr' : room < 0 ∨ 4096 < room := by omega
      have hN := new_err w1 hr'
      go_wp2_with (first
        | (go_at_call 9; refine hN.mono ?_; rintro e w2 ⟨⟨v, rfl, hE⟩, hb2⟩; have hg2 := hg1.below hb2)
        | (go_at_call 10; refine (rnew_err _ hr').mono ?_; rintro e w3 ⟨rfl, rfl⟩)
        | (go_at_call 11; refine (told_at hg2 hE (.inr (by decide))).mono ?_; rintro e w4 ⟨rfl, hf4⟩))
      have hB4 : Below w.heap.size w w4 := (hb1.trans (hb2.mono hs1)).trans (Fr.below hf4 (Nat.le_trans hs1 hb2.size) (fun k hk => Nat.le_trans hs1 hk.1))
      have hg4 := hg.below hB4
      go_loopw [9] (fun i wr => wr = w4 ∧ i = .int .i64 0) (fun i _ => 0)
      case atStart => exact ⟨rfl, rfl⟩
      case round =>
        obtain ⟨rfl, rfl⟩ := hrel
        by_cases h0 : 0 < ds.length
        · have d1 : decide (0 < ds.length) = true := by simpa using h0
          go_wp2_with (go_at_call 8; refine (live_any hg4).mono ?_; rintro e w5 ⟨rfl, hb5⟩)
          go_ret
          exact ⟨rfl, hB4.trans (hb5.mono hB4.size)⟩
        · have d1 : decide (0 < ds.length) = false := by simpa using h0
          go_wp2_with (go_at_call 8; refine (live_any hg4).mono ?_; rintro e w5 ⟨rfl, hb5⟩)
          go_ret
          exact ⟨rfl, hB4.trans (hb5.mono hB4.size)⟩
end Go.Proofs.YtekajggjoeimoaaGreatDoor
set_option linter.unusedVariables false
namespace Go.Proofs.YtekajggjoeimoaaGreatDoor
open Go.ChangeShapes Go.WideShapes Go.ChangeAt Go.RowKit Go.Joins Go.Deep
section
variable {H : Type} {enc : TypeId × Value → H} {P : Program} {w : World} {base : Nat} {spare : Nat → Bool} {held : Bool}
theorem open_slice_fields {t e : TypeId} {fs : Array Field} {fuel : Nat} {cs : List Value} {x : DataW H × List MemPlace} (ht : P.underlying t = some (.slice e)) (he : P.underlying e = some (.struct fs))
    (hone : oneCellFields P fs = true) (hC : P.cellsOf e = fs.size) (h : DataW.trod enc P w base spare held fuel t cs = some x) :
    (cs = [.slice none 0 0] ∧ x = (.nil, [])) ∨
    ∃ (a : Addr) (len cap m : Nat) (D : Nat → DataW H) (Pl : Nat → List MemPlace), cs = [.slice (some a) len cap] ∧ base ≤ a.block ∧ len ≤ cap ∧ cap ≤ maxLen ∧ m = (if spare a.block then cap else len) ∧
      x = (.slice ((List.range len).map D) ((List.range (m - len)).map fun j => D (len + j)), MemPlace.row a (m * fs.size) ++ (List.range m).flatMap Pl) ∧
      ∀ i, i < m → ∃ (ys : List (DataW H × List MemPlace)) (n : Nat), D i = .agg (ys.map (·.1)) ∧ Pl i = ys.flatMap (·.2) ∧ ys.length = fs.size ∧
        ∀ (j : Nat) (f : Field), fs[j]? = some f → ∃ (v : Value) (y : DataW H × List MemPlace), w.cell? (a.add (i * fs.size + j)) = some v ∧ ys[j]? = some y ∧ DataW.trod enc P w base spare held n f.type [v] = some y := by
  rcases open_slice ht h with h0 | ⟨a, len, cap, m, n, D, Pl, hcs, hb, hl, hm, hmm, hx, hi⟩
  · exact .inl h0
  · refine .inr ⟨a, len, cap, m, D, Pl, hcs, hb, hl, hm, hmm, by rw [hC] at hx; exact hx, fun i him => ?_⟩
    obtain ⟨cs', hc, ht'⟩ := hi i him
    rw [hC] at hc
    obtain ⟨ys, n', hn', hy, hlen, hyl, hf⟩ := DataW.trod_struct he ht'
    obtain ⟨_, hcl, hat⟩ := World.cells?_some hc
    simp only [Prod.mk.injEq] at hy
    refine ⟨ys, n', hy.1, hy.2, hyl, fun j f hj => ?_⟩
    obtain ⟨ho, hk⟩ := hone_of hone j f hj
    have hjl : j < fs.size := (Array.getElem?_eq_some_iff.1 hj).1
    have hcell := hat j hjl
    have hv : cs'[j]? = some (cs'[j]'(by omega)) := List.getElem?_eq_getElem (by omega)
    have h1 := hf j f hj
    rw [ho, hk] at h1
    have hone' : (cs'.drop j).take 1 = [cs'[j]'(by omega)] := by
      rw [List.drop_eq_getElem_cons (by omega)]
      rfl
    rw [hone'] at h1
    have hys : ys[j]? = some (ys[j]'(by omega)) := List.getElem?_eq_getElem (by omega)
    refine ⟨_, _, ?_, hys, h1.trans hys⟩
    rw [← Go.Deep.add_add, hcell, hv]
theorem weightsAll_mem {e : TypeId} : ∀ {l : List (DataW H)} {d : DataW H}, d ∈ l → ∀ n ∈ d.weights P e, n ∈ DataW.weightsAll P e l
  | d' :: r, d, hd, n, hn => by
    simp only [DataW.weightsAll, List.mem_append]
    rcases List.mem_cons.1 hd with rfl | h
    · exact Or.inl hn
    · exact Or.inr (weightsAll_mem h n hn)
/-- What a datum weighs is of the form's reach. -/
def Light (P : Program) (t : TypeId) (d : DataW H) : Prop := ∀ n ∈ d.weights P t, n ≤ reachBytes
theorem light_of {ts : List TypeId} {ds : List (DataW H)} {j : Nat} {t : TypeId} {d : DataW H} (h : (DataW.weightsEach P ts ds).all (· ≤ reachBytes) = true) (ht : ts[j]? = some t) (hd : ds[j]? = some d) : Light P t d :=
  fun n hn => of_decide_eq_true (List.all_eq_true.1 h _ (DataW.weights_mem_each ht hd n hn))
theorem Light.elem {t e : TypeId} {elems sp : List (DataW H)} {d : DataW H} (h : Light P t (.slice elems sp)) (hu : P.underlying t = some (.slice e)) (hd : d ∈ elems) : Light P e d := fun n hn => h n (by
  simp only [DataW.weights, hu, List.mem_cons, List.mem_append]
  exact .inr (.inl (weightsAll_mem hd n hn)))
theorem Light.part {t : TypeId} {fs : Array Field} {parts : List (DataW H)} {j : Nat} {f : Field} {d : DataW H} (h : Light P t (.agg parts)) (hu : P.underlying t = some (.struct fs)) (hf : fs[j]? = some f) (hd : parts[j]? = some d) : Light P f.type d := fun n hn => h n (by
  simp only [DataW.weights, hu]
  refine DataW.weights_mem_each (j := j) (t := f.type) ?_ hd n hn
  rw [List.getElem?_map, Array.getElem?_toList, hf]
  rfl)
theorem Light.str {t : TypeId} {l : List UInt8} (h : Light (H := H) P t (.lit (.string l))) : l.length ≤ reachBytes := h _ (by simp [DataW.weights])
theorem Light.len {t e : TypeId} {elems sp : List (DataW H)} (h : Light P t (.slice elems sp)) (hu : P.underlying t = some (.slice e)) (hb : 0 < P.bytesOf e) : elems.length ≤ reachBytes := by
  have := h ((elems.length + sp.length) * P.bytesOf e) (by simp [DataW.weights, hu])
  have h2 : elems.length + sp.length ≤ (elems.length + sp.length) * P.bytesOf e := Nat.le_mul_of_pos_right _ hb
  omega
end
section
variable {H : Type} {enc : TypeId × Value → H} {w : World} {base : Nat} {held : Bool}
theorem add_off (a : Addr) (i j : Nat) (hj : 0 < j) : a.add (i + j) = ⟨(a.add i).block, (a.add i).off + j, none⟩ := by
  unfold Addr.add
  by_cases hi : i = 0
  · subst hi; rw [if_neg (by omega), if_pos rfl, Nat.zero_add]
  · rw [if_neg (by omega), if_neg hi]; simp [Nat.add_assoc]
theorem rdB_nil {B : Nat} : RdB B w none 0 [] := fun W _ => Reads.none_
/-- Numbers that came in. -/
theorem ints_of {fuel : Nat} {v : Value} {y : DataW H × List MemPlace} (h : DataW.trod enc Tryz.prog w base (fun _ => true) held fuel 37 [v] = some y) (hL : Light Tryz.prog 37 y.1) :
    ∃ (A : Option Addr) (c : Nat) (l : List Int), v = .slice A l.length c ∧ RdB w.heap.size w A l.length (l.map (.int .i64)) ∧ l.length ≤ 140737488351232 := by
  rcases open_ints Tryz.underlying37 Tryz.underlying3 (by kernel_rfl) h with ⟨hcs, _⟩ | ⟨x, l, c, zs, hcs, _, hl, hm, hz, hy, hcell, hwz⟩
  · simp at hcs
    exact ⟨none, 0, [], hcs, rdB_nil, by simp⟩
  · simp at hcs hz
    have hlt : (zs.take l).length = l := by rw [List.length_take]; omega
    have hll := hL
    rw [hy] at hll
    have hw := hll.len Tryz.underlying37 (of_decide_eq_true (by kernel_rfl))
    unfold lits at hw
    rw [List.length_map, hlt] at hw
    refine ⟨some x, c, zs.take l, by rw [hcs, hlt], fun W hW => ⟨by simp, fun h0 => ?_⟩, by rw [hlt]; exact hw⟩
    rw [hlt] at h0
    have c0 := hcell 0 (by omega)
    have hb := World.block_lt_of_cell? w _ c0
    have hbx : x.block < w.heap.size := by simpa [Addr.add] using hb
    refine ⟨x, rfl, Nat.lt_of_lt_of_le hbx hW.size, fun j u hu => ?_⟩
    rw [hW.cell (by unfold Addr.add; split <;> exact hbx)]
    rw [List.getElem?_map, List.getElem?_take] at hu
    by_cases hj : j < l
    · rw [if_pos hj] at hu
      rw [hcell j (by omega)]
      cases hzj : zs[j]? with
      | none => rw [hzj] at hu; cases hu
      | some z => rw [hzj] at hu; simpa [List.getD_eq_getElem?_getD, hzj] using hu
    · rw [if_neg hj] at hu; cases hu
theorem bytes_of {zs : List Int} (h : ∀ n ∈ zs, 0 ≤ n ∧ n < 256) : ∃ s : ByteArray, s.size = zs.length ∧ bvals s = zs.map (.int .u8) := by
  refine ⟨⟨(zs.map fun n => UInt8.ofNat n.toNat).toArray⟩, by simp [ByteArray.size], ?_⟩
  unfold bvals
  simp only [List.map_map]
  refine List.map_congr_left fun n hn => ?_
  obtain ⟨h1, h2⟩ := h n hn
  simp only [Function.comp, Value.int.injEq, true_and]
  rw [UInt8.toNat_ofNat']
  omega
/-- Bytes that came in. -/
theorem bytes_in {fuel : Nat} {v : Value} {y : DataW H × List MemPlace} (h : DataW.trod enc Tryz.prog w base (fun _ => true) held fuel 36 [v] = some y) (hL : Light Tryz.prog 36 y.1) :
    ∃ (A : Option Addr) (c : Nat) (s : ByteArray), v = .slice A s.size c ∧ RdB w.heap.size w A s.size (bvals s) ∧ s.size ≤ 140737488351232 := by
  rcases open_ints Tryz.underlying36 Tryz.underlying5 (by kernel_rfl) h with ⟨hcs, _⟩ | ⟨x, l, c, zs, hcs, _, hl, hm, hz, hy, hcell, hwz⟩
  · simp at hcs
    exact ⟨none, 0, ByteArray.empty, hcs, rdB_nil, by simp⟩
  · simp at hcs hz
    have hlt : (zs.take l).length = l := by rw [List.length_take]; omega
    have hll := hL
    rw [hy] at hll
    have hw := hll.len Tryz.underlying36 (of_decide_eq_true (by kernel_rfl))
    unfold lits at hw
    rw [List.length_map, hlt] at hw
    obtain ⟨s, hs, hsb⟩ := bytes_of (zs := zs.take l) (fun n hn => by
      have := hwz n (List.mem_of_mem_take hn)
      have e1 : IntKind.u8.min = 0 := rfl
      have e2 : IntKind.u8.max = 255 := rfl
      simp [Lit.wf] at this
      omega)
    rw [hlt] at hs
    refine ⟨some x, c, s, by rw [hcs, hs], fun W hW => ⟨by rw [hsb, List.length_map, hlt, hs]; simp, fun h0 => ?_⟩, by rw [hs]; exact hw⟩
    rw [hs] at h0
    have c0 := hcell 0 (by omega)
    have hb := World.block_lt_of_cell? w _ c0
    have hbx : x.block < w.heap.size := by simpa [Addr.add] using hb
    refine ⟨x, rfl, Nat.lt_of_lt_of_le hbx hW.size, fun j u hu => ?_⟩
    rw [hW.cell (by unfold Addr.add; split <;> exact hbx)]
    rw [hsb, List.getElem?_map, List.getElem?_take] at hu
    by_cases hj : j < l
    · rw [if_pos hj] at hu
      rw [hcell j (by omega)]
      cases hzj : zs[j]? with
      | none => rw [hzj] at hu; cases hu
      | some z => rw [hzj] at hu; simpa [List.getD_eq_getElem?_getD, hzj] using hu
    · rw [if_neg hj] at hu; cases hu
theorem list_of {P : Nat → Dm → Prop} : ∀ (n : Nat), (∀ i, i < n → ∃ d, P i d) → ∃ ds : List Dm, ds.length = n ∧ ∀ i d, ds[i]? = some d → P i d
  | 0, _ => ⟨[], rfl, fun i d h => by simp at h⟩
  | n + 1, h => by
    obtain ⟨ds, hl, hd⟩ := list_of n (fun i hi => h i (by omega))
    obtain ⟨d, hP⟩ := h n (by omega)
    refine ⟨ds ++ [d], by simp [hl], fun i x hx => ?_⟩
    by_cases hi : i < ds.length
    · rw [List.getElem?_append_left hi] at hx; exact hd i x hx
    · rw [List.getElem?_append_right (by omega)] at hx
      have := (List.getElem?_eq_some_iff.1 hx).1
      simp at this
      obtain rfl : i = n := by omega
      rw [hl, Nat.sub_self] at hx
      cases hx
      exact hP
/-- A slice of deeds that came in. -/
theorem deeds_of {fuel : Nat} {v : Value} {y : DataW H × List MemPlace} (h : DataW.trod enc Tryz.prog w base (fun _ => true) held fuel 22 [v] = some y) (hL : Light Tryz.prog 22 y.1) : ∃ A c ds, v = .slice A ds.length c ∧ DeedsAt w.heap.size w A ds ∧ ds.length ≤ 9223372036854775807 := by
  rcases open_slice_fields Tryz.underlying22 Tryz.underlying39 (by kernel_rfl) (by kernel_rfl) h with ⟨hcs, _⟩ | ⟨a, len, cap, m, D, Pl, hcs, _, hl, hm, hmm, hy, hf⟩
  · simp at hcs
    exact ⟨none, 0, [], hcs, fun k d hd => by simp at hd, by simp⟩
  · simp at hcs hmm
    subst hmm
    rw [hy] at hL
    obtain ⟨ds, hdl, hd⟩ := list_of (P := fun i d => DdAt w.heap.size w (a.add (i * 6)) d) len (fun i hi => by
      obtain ⟨ys, n, hD, _, _, hy⟩ := hf i (by omega)
      have hLi : Light Tryz.prog 39 (.agg (ys.map (·.1))) := hD ▸ hL.elem Tryz.underlying22 (List.mem_map.2 ⟨i, List.mem_range.2 hi, rfl⟩)
      have hLp : ∀ (j : Nat) (f : Field) (y : DataW H × List MemPlace), (#[_, _, _, _, _, _] : Array Field)[j]? = some f → ys[j]? = some y → Light Tryz.prog f.type y.1 := fun j f y hf hy => hLi.part Tryz.underlying39 hf (by rw [List.getElem?_map, hy]; rfl)
      obtain ⟨v0, y0, e0, _, t0⟩ := hy 0 _ rfl
      obtain ⟨v1, y1, e1, z1, t1⟩ := hy 1 _ rfl
      obtain ⟨v2, y2, e2, z2, t2⟩ := hy 2 _ rfl
      obtain ⟨v3, y3, e3, _, t3⟩ := hy 3 _ rfl
      obtain ⟨v4, y4, e4, z4, t4⟩ := hy 4 _ rfl
      obtain ⟨v5, y5, e5, z5, t5⟩ := hy 5 _ rfl
      obtain ⟨kd, hc0, _⟩ := DataW.trod_int Tryz.underlying3 t0
      obtain ⟨sa, hc1, hy1, _⟩ := DataW.trod_string Tryz.underlying9 t1
      obtain ⟨sb, hc2, hy2, _⟩ := DataW.trod_string Tryz.underlying9 t2
      obtain ⟨n3, hc3, _, wf⟩ := DataW.trod_int Tryz.underlying3 t3
      have l1 := hLp 1 _ y1 rfl z1
      have l2 := hLp 2 _ y2 rfl z2
      rw [hy1] at l1
      rw [hy2] at l2
      have s1 := l1.str
      have s2 := l2.str
      obtain ⟨A4, c4, s, rfl, hr4, hl4⟩ := bytes_in t4 (hLp 4 _ y4 rfl z4)
      obtain ⟨A5, c5, ks, rfl, hr5, hl5⟩ := ints_of t5 (hLp 5 _ y5 rfl z5)
      simp only [List.cons.injEq, and_true] at hc0 hc1 hc2 hc3
      subst hc0 hc1 hc2 hc3
      refine ⟨⟨⟨kd, sa, sb, n3, s, ks⟩, A4, c4, A5, c5⟩, e0, (add_off a (i * 6) 1 (by omega)) ▸ e1, (add_off a (i * 6) 2 (by omega)) ▸ e2, (add_off a (i * 6) 3 (by omega)) ▸ e3, (add_off a (i * 6) 4 (by omega)) ▸ e4, (add_off a (i * 6) 5 (by omega)) ▸ e5, hr4, hr5, ?_, ?_, ?_, hl4, hl5⟩
      · have e1 : IntKind.i64.min = -9223372036854775808 := rfl
        have e2 : IntKind.i64.max = 9223372036854775807 := rfl
        simp [Lit.wf] at wf
        show -9223372036854775808 ≤ n3 ∧ n3 ≤ 9223372036854775807
        omega
      · simpa [reachBytes] using s1
      · simpa [reachBytes] using s2)
    refine ⟨some a, _, ds, by rw [hcs, hdl], fun k d hk => ⟨a, rfl, ?_, hd k d hk⟩, by simp [maxLen] at hm; omega⟩
    have := World.block_lt_of_cell? w _ (hd k d hk).c0
    rw [add_block] at this
    exact this
end
end Go.Proofs.YtekajggjoeimoaaGreatDoor
