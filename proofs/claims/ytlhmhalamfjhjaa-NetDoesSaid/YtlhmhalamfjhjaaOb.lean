/- NetDoes, walked. -/
import Derived.Test.YtlhmhalamfjhjaaOa
set_option linter.unusedVariables false
namespace Go.Proofs.Ytlhmhalamfjhjaa
open Go.RowKit
def DoesRel (w : World) (a M mb : Nat) (ds : List Dd) (i : Value) (wr : World) : Prop :=
  ∃ (k : Nat) (nx : Int) (L : List Pk), k ≤ ds.length ∧ i = .int .i64 k ∧ nx ≤ k ∧ Both w.heap.size wr a M mb nx L ∧ Below w.heap.size w wr
set_option maxHeartbeats 4000000 in
set_option maxRecDepth 100000 in
theorem does_any (A : Option Addr) (c : Nat) (ds : List Dd) (w : World) (h : DeedsAt w.heap.size w A ds) (hl : ds.length ≤ 9223372036854775807) :
    Calls Try.prog 3 #[.slice A ds.length c] w fun e w' => e = .returned (.bool true) ∧ Below w.heap.size w w' := by
  go_enter Try.func3, Try.ntmps3
  go_wp2_with fail
  go_at_call 6
  refine (small_any A c ds w h hl).mono ?_
  rintro e w1 ⟨b, rfl, rfl, hb⟩
  cases b
  · clear hb
    go_wp2_with (go_at_call 7; refine (live_any _).mono ?_; rintro e w1 ⟨rfl, hb⟩)
    go_ret
    exact ⟨rfl, hb⟩
  · obtain ⟨hd, hdb⟩ := hb rfl
    have hd' : ds.length ≤ 150 := hd
    have HDB := Lib.hid hdb
    clear hb hdb
    go_wp2_with fail
    go_at_call 8
    refine (New_any _).mono ?_
    rintro e w1 ⟨rfl, hnet, hb1⟩
    obtain ⟨a, ha⟩ : ∃ a, a = w.heap.size + 1 := ⟨_, rfl⟩
    obtain ⟨M, hM⟩ : ∃ M, M = w.heap.size := ⟨_, rfl⟩
    rw [← ha, ← hM] at hnet
    rw [← ha]
    have ha' : w.heap.size ≤ a := by omega
    have hM' : w.heap.size ≤ M := by omega
    clear ha hM
    have hB1 : Below w.heap.size w w1 := hb1
    have hsz : w.heap.size ≤ w1.heap.size := hb1.size
    go_wp2_with fail
    go_at_call 9
    refine (RNew_any w1 w.heap.size hsz).mono ?_
    rintro e w2 ⟨rfl, href, hb2⟩
    obtain ⟨mb, hmb⟩ : ∃ mb, mb = w1.heap.size := ⟨_, rfl⟩
    rw [← hmb] at href
    rw [← hmb]
    have hP : NetP w2 a M 0 [] := ⟨[], 0, hnet.below hb2, rfl⟩
    have hBoth : Both w.heap.size w2 a M mb 0 [] := ⟨hP, href, ha', hM', by simp, fun p hp => by cases hp⟩
    have hB2 : Below w.heap.size w w2 := hB1.trans (hb2.mono hsz)
    clear hmb
    go_wp2_with fail
    go_loopw [5] (fun i wr => DoesRel w a M mb ds i wr) (fun i _ => ds.length - (intOf i).toNat)
    case atStart => exact ⟨0, 0, [], Nat.zero_le _, rfl, Int.le_refl _, hBoth, hB2⟩
    case round =>
      clear hnet hb1 hB1 hsz hP hBoth hB2 href hb2
      obtain ⟨k, nx, L, hk, rfl, hnx, hS, hB⟩ := hrel
      by_cases hlt : k < ds.length
      · have d1 : decide (k < ds.length) = true := by simpa using hlt
        obtain ⟨d, hdk⟩ : ∃ d, ds[k]? = some d := ⟨_, List.getElem?_eq_getElem hlt⟩
        obtain ⟨ad, rfl, hadl, hD⟩ := (h.below hB) k d hdk
        have e0 := hD.c0
        have e1 := hD.c1
        have e2 := hD.c2
        have e3 := hD.c3
        have e4 := hD.c4
        have hdr := hD.row
        have hby := hD.by0
        have hdl : d.b.length ≤ 1000000 := by have := HDB.out d (List.mem_of_getElem? hdk); omega
        have hnb : nx < 1000000 := by omega
        have hBs : w.heap.size ≤ wr.heap.size := hB.size
        go_wp2_with (first
          | (go_at_call 10; refine (do_any hS hBs d hdr hdl hnb hby).mono ?_; rintro e w2 ⟨rfl, nx', L', hnx', hS', hb2⟩)
          | (go_at_call 11; refine (alike_any hS' (by omega)).mono ?_; rintro e w3 ⟨rfl, hb3⟩))
        go_roundw
        case rel => exact ⟨k + 1, nx', L', by omega, by go_num, by omega, hS'.below hb3, (hB.trans hb2).trans (hb3.mono (Nat.le_trans hBs hb2.size))⟩
        case measure => simp [intOf]; omega
      · have d1 : decide (k < ds.length) = false := by simpa using hlt
        go_wp2_with (go_at_call 7; refine (live_any _).mono ?_; rintro e w1 ⟨rfl, hb⟩)
        go_ret
        exact ⟨rfl, hB.trans (hb.mono hB.size)⟩
end Go.Proofs.Ytlhmhalamfjhjaa
