/- An interpreter over an abstract memory, part j: append. -/
import Derived.Test.YtenfkghoolegfaaGreatDoorEvi
import Derived.Deep.AppendSrc
namespace Go.Proofs.YtenfkghoolegfaaGreatDoor.Ev
open Go.RowKit
variable {ω : Nat → Value}
section
variable {C : Ctx} {B : Nat} {X : Aux} {m : M ω} {s s' : AS} {w : World} {a : T Value} {act : Act} {n : Nat}

/-- A block that is looked at no more. -/
theorem kill_sound (h : SR B X m s w) (b : Nat) (hb : (s.h.get b).isSome = true) {i : Info} (hi : m b = some i) : SR B X m ⟨s.n, s.h.put b .dead⟩ w := by
  have key : ∀ c p, (s.h.put b .dead).get c = some p → p.alive = true → s.h.get c = some p := by
    intro c p hc hp
    rw [T.get_put] at hc
    by_cases hcb : c = b
    · rw [if_pos hcb] at hc; cases hc; cases hp
    · rw [if_neg hcb] at hc; exact hc
  refine ⟨fun c p j hc hp hj => h.rel c p j (key c p hc hp) hp hj, fun c d p q x y hc hd hp hq hne hx hy => h.inj c d p q x y (key c p hc hp) (key d q hd hq) hp hq hne hx hy, fun c hc => ?_, h.freshM, fun c p hc => ?_, h.kp, h.lt⟩
  · show (s.h.put b .dead).get c = none
    rw [T.get_put]
    by_cases hcb : c = b
    · subst hcb; rw [h.freshH c hc] at hb; cases hb
    · rw [if_neg hcb]; exact h.freshH c hc
  · obtain ⟨k1, k2⟩ := h.gh c p hc
    refine ⟨?_, k2⟩
    show (s.h.put b .dead).get c = some p
    rw [T.get_put, if_neg (fun e => by rw [e, hi] at k2; cases k2)]
    exact k1

/-- A new object that is an old one's block. -/
theorem share_sound (h : SR B X m s w) {b : Nat} {o o' : AObj} {i i' : Info} (hg : s.h.get b = some o) (ha : o.alive = true) (hi : m b = some i) (hr : i'.r = i.r) {w1 : World} (hsz : w1.heap.size = w.heap.size)
    (hold : ∀ k, k ≠ i.r → w1.heap[k]? = w.heap[k]?) (ho : ORel (ext m s.n i') w1 i' o') : SR B X (ext m s.n i') ⟨s.n + 1, (s.h.put b .dead).put s.n o'⟩ w1 := by
  obtain ⟨_, e2, e3⟩ := h.rel b o i hg ha hi
  have hle : Le m (ext m s.n i') := ext_le (h.freshM s.n (Nat.le_refl _))
  have hbn : b ≠ s.n := fun e => by rw [e, h.freshH s.n (Nat.le_refl _)] at hg; cases hg
  have mkey : ∀ c j, ext m s.n i' c = some j → c ≠ s.n → m c = some j := by
    intro c j hj hne
    unfold ext at hj; rwa [if_neg hne] at hj
  have key : ∀ c p, ((s.h.put b .dead).put s.n o').get c = some p → p.alive = true → (c = s.n ∧ p = o') ∨ (c ≠ s.n ∧ c ≠ b ∧ s.h.get c = some p) := by
    intro c p hc hp
    rw [T.get_put, T.get_put] at hc
    by_cases hcn : c = s.n
    · rw [if_pos hcn] at hc; cases hc; exact .inl ⟨hcn, rfl⟩
    · rw [if_neg hcn] at hc
      by_cases hcb : c = b
      · rw [if_pos hcb] at hc; cases hc; cases hp
      · rw [if_neg hcb] at hc
        exact .inr ⟨hcn, hcb, hc⟩
  refine ⟨?_, ?_, ?_, ?_, ?_, ?_, fun c j hj => by
    by_cases hcn : c = s.n
    · rw [hcn, ext_same] at hj; cases hj; rw [hsz, hr]; exact e3
    · rw [hsz]; exact h.lt c j (mkey c j hj hcn)⟩
  · intro c p j hc hp hj
    rcases key c p hc hp with ⟨rfl, rfl⟩ | ⟨h1, h2, h3⟩
    · rw [ext_same] at hj; cases hj; exact ⟨ho, by omega, by omega⟩
    · have h4 := mkey c j hj h1
      obtain ⟨f2, f3, f4⟩ := h.rel c p j h3 hp h4
      exact ⟨(f2.mono hle).other (hold _ (h.inj c b p o j i h3 hg hp ha h2 h4 hi)), f3, by omega⟩
  · intro c d p q x y hc hd hp hq hne hx hy
    rcases key c p hc hp with ⟨rfl, rfl⟩ | ⟨h1, h2, h3⟩
    · rw [ext_same] at hx; cases hx
      rcases key d q hd hq with ⟨rfl, rfl⟩ | ⟨k1, k2, k3⟩
      · exact absurd rfl hne
      · have := h.inj d b q o _ i k3 hg hq ha k2 (mkey d y hy k1) hi
        omega
    · have h4 := mkey c x hx h1
      rcases key d q hd hq with ⟨rfl, rfl⟩ | ⟨k1, k2, k3⟩
      · rw [ext_same] at hy; cases hy
        have := h.inj c b p o _ i h3 hg hp ha h2 h4 hi
        omega
      · exact h.inj c d p q _ _ h3 k3 hp hq hne h4 (mkey d y hy k1)
  · intro c hc
    have hc' : s.n + 1 ≤ c := hc
    show ((s.h.put b .dead).put s.n o').get c = none
    rw [T.get_put, if_neg (by omega), T.get_put]
    by_cases hcb : c = b
    · subst hcb; rw [h.freshH c (by omega)] at hg; cases hg
    · rw [if_neg hcb]; exact h.freshH c (by omega)
  · intro c hc
    have hc' : s.n + 1 ≤ c := hc
    unfold ext; rw [if_neg (by omega)]; exact h.freshM c (by omega)
  · intro c p hc
    obtain ⟨k1, k2⟩ := h.gh c p hc
    have hcn : c ≠ s.n := fun e => by rw [e, h.freshH s.n (Nat.le_refl _)] at k1; cases k1
    have hcb : c ≠ b := fun e => by rw [e, hi] at k2; cases k2
    refine ⟨?_, by unfold ext; rw [if_neg hcn]; exact k2⟩
    show ((s.h.put b .dead).put s.n o').get c = some p
    rw [T.get_put, if_neg hcn, T.get_put, if_neg hcb]; exact k1
  · intro r q hr'
    obtain ⟨k1, k2, k3⟩ := h.kp r q hr'
    have hne := k3 b i hi
    refine ⟨by rw [hold r hne.symm]; exact k1, k2, fun c j hj => ?_⟩
    by_cases hcn : c = s.n
    · rw [hcn, ext_same] at hj; cases hj; rw [hr]; exact hne
    · exact k3 c j (mkey c j hj hcn)

/-- Nothing written. -/
theorem writeNil_sound (h : SR B X m s w) {p : Addr} (hp : ∃ i, m p.block = some i) (hr : writeL s p [] = some s') : SR B X m s' w := by
  unfold writeL at hr
  split at hr
  · rename_i k hsp hk
    cases hb : (Nat.ble (p.off + ([] : List Value).length) k.len && ([] : List Value).all oneV) with
    | false => rw [hb] at hr; cases hr
    | true =>
      rw [hb] at hr
      simp only [cond_true, Option.some.injEq] at hr
      subst hr
      obtain ⟨i, h1⟩ := hp
      obtain ⟨h2, h3, _⟩ := blk_at h hk h1
      exact upd_sound h h2 rfl h1 rfl (fun _ _ => rfl) h3
  · cases hr

/-- What append's second argument yields. -/
structure ASrc (P : Program) (e : TypeId) (i : TypeInfo) (z : Value) (tx : TypeId) (x : Value) (k : Nat) (news : List Value) (w : World) : Prop where
  way : Src P i.size tx x k news w ∨ (∃ kd, P.underlying tx = some (.int kd)) ∧ (∃ kd, x = .int kd (k : Int)) ∧ k ≤ 1000000 ∧ news = repL k z.cells.toList

theorem wrap_sm {k : Nat} (h : k ≤ 1000000) : IntKind.i64.wrap (k : Int) = k := by
  simp [IntKind.wrap, IntKind.bits, IntKind.signed]; omega

theorem app_room {P : Program} (t tx ty e : TypeId) (i : TypeInfo) (z : Value) (ht : P.underlying t = some (.slice e)) (hi : P.info? e = some i) (hz : i.zero = some z) (hzs : z.cells.size = i.size) (hby : i.bytes ≤ 1000000)
    (ao : Option Addr) (q c : Nat) (x : Value) (k : Nat) (news : List Value) (hs : ASrc P e i z tx x k news w) (hroom : q + k ≤ c) {w' : World} (hst : ∀ p, ao = some p → (storeCells (p.add (q * i.size)) news).run P w = .ok () w') (hno : ao = none → w' = w) :
    (Builtin.append_ #[t, tx] ty #[.slice ao q c, x]).run P w = .ok (.slice ao (q + k) c) w' := by
  rcases hs.way with hs | ⟨⟨kd, hk⟩, ⟨kd', rfl⟩, hk2, rfl⟩
  · cases ao with
    | none => obtain rfl := hno rfl; rcases hs.kind with ⟨e', hk⟩ | hk <;> simp [Builtin.append_, run_underlying ht, run_underlying hk, sizeOf, typeInfo, hi, hs.len, hroom, hs.cells]
    | some p => have := hst p rfl; rcases hs.kind with ⟨e', hk⟩ | hk <;> simp [Builtin.append_, run_underlying ht, run_underlying hk, sizeOf, typeInfo, hi, hs.len, hroom, hs.cells, this]
  · have hb : ¬ ((281474976710656 : Int) < (k : Int) * (i.bytes : Int)) := by
      have h1 : (k : Int) * (i.bytes : Int) ≤ 1000000 * 1000000 := Int.mul_le_mul (by omega) (by omega) (by omega) (by omega)
      omega
    have hzc : Builtin.zeroCells z.cells k = (repL k z.cells.toList).toArray := rep_arr z.cells k
    have hemp : k * i.size = 0 → repL k z.cells.toList = [] := fun h => List.length_eq_zero_iff.1 (by rw [repL_len]; simp [hzs, h])
    by_cases h0 : k * i.size = 0
    · rw [hemp h0] at hst
      cases ao with
      | none => obtain rfl := hno rfl; simp [Builtin.append_, run_underlying ht, run_underlying hk, sizeOf, typeInfo, hi, asInt, asIntOf, wrap_sm hk2, show ¬ ((k : Int) < 0) by omega, hb, hroom, h0]
      | some p => have := hst p rfl; simp [Builtin.append_, run_underlying ht, run_underlying hk, sizeOf, typeInfo, hi, asInt, asIntOf, wrap_sm hk2, show ¬ ((k : Int) < 0) by omega, hb, hroom, h0, this]
    · cases ao with
      | none => obtain rfl := hno rfl; simp [Builtin.append_, run_underlying ht, run_underlying hk, sizeOf, typeInfo, hi, asInt, asIntOf, wrap_sm hk2, show ¬ ((k : Int) < 0) by omega, hb, hroom, zeroValue, hz]
      | some p => have := hst p rfl; simp [Builtin.append_, run_underlying ht, run_underlying hk, sizeOf, typeInfo, hi, asInt, asIntOf, wrap_sm hk2, show ¬ ((k : Int) < 0) by omega, hb, hroom, h0, zeroValue, hz, hzc, this]

theorem app_grow {P : Program} (t tx ty e : TypeId) (i : TypeInfo) (z : Value) (ht : P.underlying t = some (.slice e)) (hi : P.info? e = some i) (hz : i.zero = some z) (hzs : z.cells.size = i.size) (hby : i.bytes ≤ 1000000)
    (base : Option Addr) (q c : Nat) (olds : List Value) (hold : (Builtin.firstCells i.size q (.slice base q c)).run P w.drew = .ok olds.toArray w.drew) (x : Value) (k : Nat) (news : List Value) (hs : ASrc P e i z tx x k news w)
    (hg : c < q + k) (hsm : q + k ≤ 1000000) :
    (Builtin.append_ #[t, tx] ty #[.slice base q c, x]).run P w =
      .ok (.slice (some ⟨w.heap.size, 0, none⟩) (q + k) (grownCap w (q + k) c e))
        (w.drew.alloc (.cells ((olds ++ news).toArray ++ Builtin.zeroCells z.cells (grownCap w (q + k) c e - (q + k))) e)) := by
  have hfit : Builtin.nextslicecap (q + k) c * i.bytes ≤ 281474976710656 := growslice_fits hg (by
    have : (q + k) * i.bytes ≤ 1000000 * 1000000 := Nat.mul_le_mul hsm hby
    omega)
  rcases hs.way with hs | ⟨⟨kd, hk⟩, ⟨kd', rfl⟩, hk2, rfl⟩
  · exact run_append_grow_src w t tx ty e i z ht hi hz base q c olds hold x k news hs hg (by omega) hfit
  · have hb : ¬ ((281474976710656 : Int) < (k : Int) * (i.bytes : Int)) := by
      have h1 : (k : Int) * (i.bytes : Int) ≤ 1000000 * 1000000 := Int.mul_le_mul (by omega) (by omega) (by omega) (by omega)
      omega
    have hn : ¬ (q + k ≤ c) := by omega
    have h63' : ¬ (9223372036854775807 < ((q : Int) + (k : Int))) := by omega
    have h48' : ¬ (281474976710656 < Builtin.nextslicecap (q + k) c * i.bytes) := by omega
    have hzc : Builtin.zeroCells z.cells k = (repL k z.cells.toList).toArray := rep_arr z.cells k
    have hemp : k * i.size = 0 → repL k z.cells.toList = [] := fun h => List.length_eq_zero_iff.1 (by rw [repL_len]; simp [hzs, h])
    by_cases h0 : k * i.size = 0
    · rw [hemp h0]
      simp [Builtin.append_, run_underlying ht, run_underlying hk, sizeOf, typeInfo, zeroValue, hi, hz, asInt, asIntOf, wrap_sm hk2, show ¬ ((k : Int) < 0) by omega, hb, hn, h63', h48', Question.forced, hold, newRow, grownCap, h0]
    · simp [Builtin.append_, run_underlying ht, run_underlying hk, sizeOf, typeInfo, zeroValue, hi, hz, asInt, asIntOf, wrap_sm hk2, show ¬ ((k : Int) < 0) by omega, hb, hn, h63', h48', Question.forced, hold, newRow, grownCap, h0, hzc]
      congr 2
      apply Array.ext'
      simp [List.append_assoc]
end
end Go.Proofs.YtenfkghoolegfaaGreatDoor.Ev
