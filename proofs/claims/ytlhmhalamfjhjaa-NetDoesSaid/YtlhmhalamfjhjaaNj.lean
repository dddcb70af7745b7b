/- NetSent: each call keeps what is known of packets. -/
import Derived.Test.YtlhmhalamfjhjaaNi
set_option linter.unusedVariables false
namespace Go.Proofs.Ytlhmhalamfjhjaa
open Go.RowKit
section
variable {w w' : World} {a M : Nat} {nx : Int} {l : List PkA} {clock : Nat}
theorem SentAt.keep {B : Nat} {ss : List (List Int)} {ts : List Int} {vs vt : Value} (h : SentAt B w a M nx l clock ss ts vs vt) (hB : B ≤ w.heap.size) {nx' : Int} {l' : List PkA} {clock' : Nat} (hf : Fr (fun k => k = a ∨ k = M) w w')
    (hnet : NetAt w' a M nx' l' clock') (hg : ∀ x ∈ l', Sent ss ts x.p) : SentAt B w' a M nx' l' clock' ss ts vs vt := by
  refine ⟨hnet, ?_, ?_, h.len, hg, h.short⟩
  · have h1 := h.own1
    refine ⟨h1.1, h1.2.imp id ?_⟩
    rintro ⟨g, cap, cur, e1, e2, e3, e4⟩
    refine ⟨g, cap, cur, e1, e2, hf.heap e3 ?_, e4⟩
    rintro (rfl | rfl)
    · rw [h.net.blk] at e3; cases e3
    · rw [h.net.map] at e3; cases e3
  · have h1 := h.own2
    refine ⟨h1.1, h1.2.imp id ?_⟩
    rintro ⟨g, cap, cur, e1, e2, e3, e4⟩
    refine ⟨g, cap, cur, e1, e2, hf.heap e3 ?_, e4⟩
    rintro (rfl | rfl)
    · rw [h.net.blk] at e3; cases e3
    · rw [h.net.map] at e3; cases e3
theorem Fr.drop (h : Fr (fun k => k = M) w w') : Fr (fun k => k = a ∨ k = M) w w' := h.mono (fun _ _ e => .inr e)
/-- Send, where it answers an error. -/
theorem Send_err {B : Nat} (a M : Nat) (nx : Int) (l : List PkA) (clock : Nat) (to : Int) (A : Option Addr) (c : Nat) (b : List Int) (hb : b.length ≤ 1000000) (h : ¬ ((to = 0 ∨ to = 1) ∧ 0 < b.length ∧ b.length ≤ 8000 ∧ l.length < 64)) :
    ∃ q : Int, (q == 0) = false ∧ ∀ w, B ≤ w.heap.size → NetAt w a M nx l clock → RowI B w A c b → Calls Try.prog 12 #[.pointer (some ⟨a, 0, none⟩), .int .i64 to, .slice A b.length c] w fun e w' => e = .returned (.tuple #[.int .i64 0, .int .i64 q]) ∧ Below w.heap.size w w' := by
  by_cases h1 : to = 0 ∨ to = 1
  · by_cases h2 : 0 < b.length
    · by_cases h3 : b.length ≤ 8000
      · exact ⟨42, rfl, fun w hB hn hr => Send_full hB hn to A c b h1 h2 h3 hr (by omega)⟩
      · exact ⟨1, rfl, fun w hB hn hr => (Send_long hn to A b.length c h1 hb (by omega)).mono fun e w' ⟨e1, e2⟩ => ⟨e1, by subst e2; exact Below.refl _ _⟩⟩
    · exact ⟨2, rfl, fun w hB hn hr => (Send_arg hn to A b.length c (.inr (by omega)) hb).mono fun e w' ⟨e1, e2⟩ => ⟨e1, by subst e2; exact Below.refl _ _⟩⟩
  · exact ⟨2, rfl, fun w hB hn hr => (Send_arg hn to A b.length c (.inl (by omega)) hb).mono fun e w' ⟨e1, e2⟩ => ⟨e1, by subst e2; exact Below.refl _ _⟩⟩
/-- A call that changes packets: what is known of them stays. -/
def Turns (w : World) (a M : Nat) (nx : Int) (l : List PkA) (clock : Nat) (P : Pk → Prop) (w' : World) : Prop :=
  ∃ (nx' : Int) (l' : List PkA) (clock' : Nat), nx ≤ nx' ∧ nx' ≤ nx + 1 ∧ NetAt w' a M nx' l' clock' ∧ Fr (fun k => k = a ∨ k = M) w w' ∧ ∀ x ∈ l', P x.p
theorem Turns.below (h : NetAt w a M nx l clock) {P : Pk → Prop} (hP : ∀ x ∈ l, P x.p) (hb : Below w.heap.size w w') : Turns w a M nx l clock P w' :=
  ⟨nx, l, clock, Int.le_refl _, by omega, h.below hb, Fr.of_below hb, hP⟩
theorem Drop_any (h : NetAt w a M nx l clock) (id : Int) {P : Pk → Prop} (hP : ∀ x ∈ l, P x.p) :
    Calls Try.prog 16 #[.pointer (some ⟨a, 0, none⟩), .int .i64 id] w fun e w' => ∃ q : Int, e = .returned (.int .i64 q) ∧ Turns w a M nx l clock P w' := by
  cases hl : look id l 0 with
  | none => exact (Drop_none h hl).mono fun e w' ⟨e1, hb⟩ => ⟨_, e1, Turns.below h hP hb⟩
  | some r => exact (Drop_some h (j := r.1) (y := r.2) hl).mono fun e w' ⟨e1, hn, hf⟩ => ⟨_, e1, nx, _, clock, Int.le_refl _, by omega, hn, hf.drop, fun x hx => hP x (mem_erase hx)⟩
theorem Double_any (h : NetAt w a M nx l clock) (id : Int) (hn : nx < 1000000) {P : Pk → Prop} (hP : ∀ x ∈ l, P x.p) (hid : ∀ p : Pk, ∀ i, P p → P { p with id := i }) :
    Calls Try.prog 17 #[.pointer (some ⟨a, 0, none⟩), .int .i64 id] w fun e w' => ∃ p q : Int, e = .returned (.tuple #[.int .i64 p, .int .i64 q]) ∧ Turns w a M nx l clock P w' := by
  cases hl : look id l 0 with
  | none => exact (Double_none h hl).mono fun e w' ⟨e1, hb⟩ => ⟨_, _, e1, Turns.below h hP hb⟩
  | some r =>
    by_cases hf : 64 ≤ l.length
    · exact (Double_full h (j := r.1) (y := r.2) hl hf).mono fun e w' ⟨e1, hb⟩ => ⟨_, _, e1, Turns.below h hP hb⟩
    · exact (Double_ok h (j := r.1) (y := r.2) hl (by omega) hn).mono fun e w' ⟨e1, hn, hfr⟩ => ⟨_, _, e1, nx + 1, _, _, by omega, Int.le_refl _, hn, hfr, fun x hx => by
        rcases List.mem_append.1 hx with hx | hx
        · exact hP x hx
        · obtain rfl := List.mem_singleton.1 hx
          exact hid _ _ (hP r.2 (List.mem_of_getElem? (look_spec _ _ _ _ _ (hl : look id l 0 = some (r.1, r.2))).2.1))⟩
theorem Spoil_any (h : NetAt w a M nx l clock) (id at_ by_ : Int) (hby : 0 ≤ by_ ∧ by_ < 256) {P : Pk → Prop} (hP : ∀ x ∈ l, P x.p) (hlen : ∀ x ∈ l, x.p.b.length ≤ 1000000) (hs : ∀ p : Pk, ∀ k u, P p → p.sp = false → P ⟨p.id, p.to, p.b.set k u, true⟩) :
    Calls Try.prog 18 #[.pointer (some ⟨a, 0, none⟩), .int .i64 id, .int .i64 at_, .int .u8 by_] w fun e w' => ∃ q : Int, e = .returned (.int .i64 q) ∧ Turns w a M nx l clock P w' := by
  cases hl : look id l 0 with
  | none => exact (Spoil_none h hl at_ by_).mono fun e w' ⟨e1, hb⟩ => ⟨_, e1, Turns.below h hP hb⟩
  | some r =>
    obtain ⟨j, y⟩ := r
    have hy : y ∈ l := List.mem_of_getElem? (look_spec _ _ _ _ _ hl).2.1
    cases hsp : y.p.sp with
    | true => exact (Spoil_twice h hl hsp at_ by_).mono fun e w' ⟨e1, hb⟩ => ⟨_, e1, Turns.below h hP hb⟩
    | false =>
      by_cases ha : at_ < 0 ∨ (y.p.b.length : Int) ≤ at_ ∨ by_ = 0
      · exact (Spoil_arg h hl hsp at_ by_ (hlen y hy) ha).mono fun e w' ⟨e1, hb⟩ => ⟨_, e1, Turns.below h hP hb⟩
      · obtain ⟨k, rfl⟩ := Int.eq_ofNat_of_zero_le (by omega : 0 ≤ at_)
        have hk : k < y.p.b.length := by omega
        have hu := (h.rows y hy).2.2.1 _ (List.getElem_mem hk)
        exact (Spoil_ok h hl hsp k by_ hk (hlen y hy) (by omega) hby.2 (List.getElem?_eq_getElem hk) hu.1 hu.2).mono fun e w' ⟨e1, ⟨A, c, hn⟩, hf⟩ => ⟨_, e1, nx, _, clock, Int.le_refl _, by omega, hn, hf.drop, fun x hx => by
          rcases List.mem_or_eq_of_mem_set hx with h1 | h1
          · exact hP x h1
          · subst h1; exact hs _ _ _ (hP y hy) hsp⟩
theorem Sent.spoil {ss : List (List Int)} {ts : List Int} (p : Pk) (k : Nat) (u : Int) (h : Sent ss ts p) (hs : p.sp = false) : Sent ss ts ⟨p.id, p.to, p.b.set k u, true⟩ := by
  obtain ⟨h1, h2, j, s, h3, h4, h5, h6⟩ := h
  obtain rfl := h5 hs
  exact ⟨by simpa using h1, by simpa using h2, j, p.b, h3, h4, (fun e => by cases e), near_set _ _ _⟩
end
end Go.Proofs.Ytlhmhalamfjhjaa
