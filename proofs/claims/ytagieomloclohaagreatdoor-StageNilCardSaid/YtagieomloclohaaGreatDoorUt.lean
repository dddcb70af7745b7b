/- used, as a known function of the interpreter. -/
import Derived.Test.YtagieomloclohaaGreatDoorUs
set_option linter.unusedVariables false
namespace Go.Proofs.YtagieomloclohaaGreatDoor.Ev
open Go.RowKit Go.Extern
variable {ω : Nat → Value}
noncomputable def usLens (s : AS) : List MapEntry → Option Nat
  | [] => some 0
  | e :: es => match e.val, usLens s es with
    | .pointer (some a), some n => match readN s ⟨a.block, a.off + 1, none⟩ 1 with
      | some [.slice _ k _] => some (k + n)
      | _ => none
    | _, _ => none
def bornB (ck : Nat) : List MapEntry → Bool
  | [] => true
  | e :: es => Nat.blt e.born ck && (es.all (fun x => !Nat.beq x.born e.born) && bornB ck es)
noncomputable def spUsed : SpF
  | [.pointer (some p)], s => match readN s ⟨p.block, p.off + 2, none⟩ 1 with
    | some [.map (some r)] => match s.h.get r with
      | some (.map es ck) => match usLens s es with
        | some n => cond (bornB ck es && Nat.ble n 1000000) (some (.int .i64 (.ofNat n), s)) none
        | none => none
      | _ => none
    | _ => none
  | _, _ => none
/-- A file's length, as it lies. -/
def gW (w : World) (x : MapEntry) : Nat := match x.val with
  | .pointer (some a) => (match w.cell? ⟨a.block, a.off + 1, none⟩ with
    | some (.slice _ n _) => n
    | _ => 0)
  | _ => 0
theorem slen_inv {m : M ω} {A : Option Addr} {k c : Nat} {v : Value} (h : VRel m (.slice A k c) v) : ∃ A' c', v = .slice A' k c' := by
  cases h with
  | plain v h => exact ⟨A, c, rfl⟩
  | slice a a' n c c' h hc hn => exact ⟨_, _, rfl⟩
  | slice0 a a' h => exact ⟨_, _, rfl⟩
theorem ptr_spot {m : M ω} {a a' : Addr} (h : ARel m a a') : ∃ i, m a.block = some i ∧ a' = ⟨i.r, i.d + a.off, none⟩ := by
  obtain ⟨_, i, hi, e⟩ := h
  exact ⟨i, hi, e⟩
theorem usLens_ok {B : Nat} {X : Aux} {m : M ω} {s : AS} {w : World} (hs : SR B X m s w) : ∀ (es es' : List MapEntry) (n : Nat), es.length = es'.length → (∀ (k : Nat) (e e' : MapEntry), es[k]? = some e → es'[k]? = some e' → ERel m e e') → usLens s es = some n →
    (∀ x ∈ es', ∃ f o A c, x.val = .pointer (some ⟨f, o, none⟩) ∧ w.cell? ⟨f, o + 1, none⟩ = some (.slice A (gW w x) c)) ∧ sumM (gW w) es' = n
  | [], [], n, _, _, h => by
    simp only [usLens, Option.some.injEq] at h
    subst h
    exact ⟨fun x hx => (by cases hx), rfl⟩
  | [], _ :: _, n, hl, _, _ => by simp at hl
  | _ :: _, [], n, hl, _, _ => by simp at hl
  | e :: es, e' :: es', n, hl, hr, h => by
    simp only [usLens] at h
    split at h
    · rename_i a k ha hk
      split at h
      · rename_i A k1 c1 hrd
        cases h
        obtain ⟨h1, h2⟩ := usLens_ok hs es es' k (by simpa using hl) (fun k e e' h h' => hr (k + 1) e e' (by simpa using h) (by simpa using h')) hk
        obtain ⟨_, _, hv, _⟩ := hr 0 e e' rfl rfl
        rw [ha] at hv
        obtain ⟨a', ha', hv'⟩ := ptr_inv hv
        obtain ⟨i, hi, rfl⟩ := ptr_spot ha'
        obtain ⟨l', r1, r2, r3⟩ := readN_sound hs hrd ⟨rfl, i, hi, rfl⟩
        obtain ⟨y, rfl, hy⟩ := l1 r1
        obtain ⟨A', c', rfl⟩ := slen_inv hy
        have hc := r3 0 _ rfl
        rw [add_lit, Nat.add_zero] at hc
        have hc' : w.cell? ⟨i.r, (i.d + a.off) + 1, none⟩ = some (.slice A' k1 c') := by rw [Nat.add_assoc]; exact hc
        have hg : gW w e' = k1 := by unfold gW; rw [hv']; dsimp only; rw [hc']
        refine ⟨fun x hx => ?_, ?_⟩
        · rcases List.mem_cons.1 hx with rfl | hx
          · exact ⟨_, _, _, _, hv', by rw [hg]; exact hc'⟩
          · exact h1 x hx
        · show ((e' :: es').map (gW w)).sum = _
          rw [List.map_cons, List.sum_cons, hg]
          show k1 + sumM (gW w) es' = _
          rw [h2]
      · cases h
    · cases h
theorem bornB_ok {m : M ω} {ck : Nat} : ∀ (es es' : List MapEntry), es.length = es'.length → (∀ (k : Nat) (e e' : MapEntry), es[k]? = some e → es'[k]? = some e' → ERel m e e') → bornB ck es = true →
    (∀ x ∈ es', x.born < ck) ∧ (es'.map (·.born)).Nodup ∧ es'.map (·.born) = es.map (·.born)
  | [], [], _, _, _ => ⟨fun x hx => (by cases hx), List.nodup_nil, rfl⟩
  | [], _ :: _, hl, _, _ => by simp at hl
  | _ :: _, [], hl, _, _ => by simp at hl
  | e :: es, e' :: es', hl, hr, h => by
    simp only [bornB, Bool.and_eq_true] at h
    obtain ⟨b1, b2, b3⟩ := h
    obtain ⟨h1, h2, h3⟩ := bornB_ok es es' (by simpa using hl) (fun k e e' h h' => hr (k + 1) e e' (by simpa using h) (by simpa using h')) b3
    obtain ⟨_, _, _, hb⟩ := hr 0 e e' rfl rfl
    refine ⟨fun x hx => ?_, ?_, by rw [List.map_cons, List.map_cons, h3, hb]⟩
    · rcases List.mem_cons.1 hx with rfl | hx
      · rw [← hb]; rw [← Nat.blt_eq]; exact b1
      · exact h1 x hx
    · rw [List.map_cons, List.nodup_cons]
      refine ⟨fun hm => ?_, h2⟩
      rw [h3, ← hb] at hm
      obtain ⟨x, hx, hxe⟩ := List.mem_map.1 hm
      have := List.all_eq_true.1 b2 x hx
      rw [hxe, Nat.beq_refl] at this
      cases this
theorem spUsed_sp (hh : Hands ω) (C : Ctx) (hP : C.P = Tryz.prog) : SpOK ω C 80 spUsed := by
  intro vs s v s' hv B X m w args hs hr hB
  unfold spUsed at hv
  split at hv
  · rename_i p
    split at hv
    · rename_i r hrd
      split at hv
      · rename_i es ck hg
        split at hv
        · rename_i n hn
          cases hc : (bornB ck es && Nat.ble n 1000000) with
          | false => rw [hc] at hv; cases hv
          | true =>
            rw [hc] at hv
            cases hv
            rw [Bool.and_eq_true] at hc
            obtain ⟨x', rfl, hx⟩ := args1 hr
            obtain ⟨p', hp, rfl⟩ := ptr_inv hx
            obtain ⟨i, hi, rfl⟩ := ptr_spot hp
            obtain ⟨l', r1, r2, r3⟩ := readN_sound hs hrd ⟨rfl, i, hi, rfl⟩
            obtain ⟨y, rfl, hy⟩ := l1 r1
            obtain ⟨j, hj, rfl⟩ := map_inv hy
            have hcell := r3 0 _ rfl
            rw [add_lit, Nat.add_zero] at hcell
            have c2 : w.cell? ⟨i.r, (i.d + p.off) + 2, none⟩ = some (.map (some j.r)) := by rw [Nat.add_assoc]; exact hcell
            obtain ⟨es', h2, ⟨h3, h4⟩, _⟩ := map_obj hs hg hj
            obtain ⟨u1, u2⟩ := usLens_ok hs es es' n h3 h4 hn
            obtain ⟨q1, q2, _⟩ := bornB_ok es es' h3 h4 hc.1
            have hle : sumM (gW w) es' ≤ 1000000 := by rw [u2]; exact Nat.le_of_ble_eq_true hc.2
            have hC : COK ω (CE [] [] noCnv noRd) := ceOK hh (fun f hf => by cases hf) (fun f hf => by cases hf) noCnv_ok noRd
            refine calls_ok (by rw [hP]; exact hC.ok.call 80 _ rfl rfl _ _) fun n => ?_
            rw [hP]
            refine callsIn_wide.2 ((used_map c2 h2 q1 q2 u1 hle).mono ?_)
            rintro e w' ⟨rfl, hbw⟩
            rw [u2]
            exact ⟨_, rfl, m, Le.refl _, hs.below hbw, .plain _ rfl, hbw.mono hB.le⟩
        · cases hv
      · cases hv
    · cases hv
  · cases hv
end Go.Proofs.YtagieomloclohaaGreatDoor.Ev
