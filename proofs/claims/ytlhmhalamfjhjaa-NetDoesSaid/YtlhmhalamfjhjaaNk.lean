/- NetSent, walked. -/
import Derived.Test.YtlhmhalamfjhjaaNj
import Derived.Deep.RegionHeld3
set_option linter.unusedVariables false
namespace Go.Proofs.Ytlhmhalamfjhjaa
open Go.RowKit
theorem Try.info9 : (Try.prog.info? 9).map (fun i => (i.zero, i.size, i.bytes)) = some (some (.string ByteArray.empty), 1, 16) := by kernel_rfl
theorem Try.info3 : (Try.prog.info? 3).map (fun i => (i.zero, i.size, i.bytes)) = some (some (.int .i64 0), 1, 8) := by kernel_rfl
theorem rows_keep {w w' : World} {B a M : Nat} {nx : Int} {l : List PkA} {clock : Nat} {ss : List (List Int)} {ts : List Int} {vs vt : Value} (h : SentAt B w a M nx l clock ss ts vs vt) (hB : B ≤ w.heap.size) (hf : Fr (fun k => k = a ∨ k = M) w w') :
    w'.ownsRow B 9 1 vs ss.length (ss.map fun b => Value.string (toStr b)) ∧ w'.ownsRow B 3 1 vt ts.length (ts.map (Value.int .i64)) := by
  refine ⟨⟨h.own1.1, h.own1.2.imp id ?_⟩, ⟨h.own2.1, h.own2.2.imp id ?_⟩⟩
  all_goals
    rintro ⟨g, cap, cur, e1, e2, e3, e4⟩
    refine ⟨g, cap, cur, e1, e2, hf.heap e3 ?_, e4⟩
    rintro (rfl | rfl)
    · rw [h.net.blk] at e3; cases e3
    · rw [h.net.map] at e3; cases e3
theorem own_other {w w' : World} {B e e2 n n2 : Nat} {v v2 : Value} {xs xs2 : List Value} (h : w.ownsRow B e 1 v n xs) (hg : w.grownBy w' v2.ownBlock) (h2 : w.ownsRow B e2 1 v2 n2 xs2) (he : e ≠ e2) : w'.ownsRow B e 1 v n xs := by
  refine ⟨h.1, h.2.imp id ?_⟩
  rintro ⟨g, cap, cur, e1, e2', e3, e4⟩
  refine ⟨g, cap, cur, e1, e2', (hg.block g (Array.getElem?_eq_some_iff.1 e3).1 (fun e => ?_)).trans e3, e4⟩
  rcases h2.2 with ⟨rfl, _⟩ | ⟨g2, cap2, cur2, rfl, _, e5, _⟩
  · simp [Value.ownBlock] at e
  · simp [Value.ownBlock] at e
    subst e
    rw [e3] at e5
    cases e5
    exact he rfl
theorem blk_other {w w' : World} {B e2 n2 : Nat} {v2 : Value} {xs2 : List Value} {g : Nat} {t : TypeId} {cs : Array Value} (h : Blk w g t cs) (hg : w.grownBy w' v2.ownBlock) (h2 : w.ownsRow B e2 1 v2 n2 xs2) (he : t ≠ e2) : Blk w' g t cs := by
  refine (hg.block g h.lt (fun e => ?_)).trans h
  rcases h2.2 with ⟨rfl, _⟩ | ⟨g2, cap2, cur2, rfl, _, e5, _⟩
  · simp [Value.ownBlock] at e
  · simp [Value.ownBlock] at e
    subst e
    unfold Blk at h
    rw [e5] at h
    cases h
    exact he rfl
theorem Blk.undrew {w : World} {g : Nat} {t : TypeId} {cs : Array Value} (h : Blk w.drew g t cs) : Blk w g t cs := h
theorem Row.drew_ {w : World} {A : Option Addr} {c : Nat} {b : List Int} (h : Row w A c b) : Row w.drew A c b := h
theorem Row.undrew {w : World} {A : Option Addr} {c : Nat} {b : List Int} (h : Row w.drew A c b) : Row w A c b := h
theorem Row.alloc_ {w : World} {A : Option Addr} {c : Nat} {b : List Int} (h : Row w A c b) (o : Obj) : Row (w.alloc o) A c b := h.keep (Keep8.of_below ((Below.refl _ _).alloc (Nat.le_refl _) _))
theorem Row.other {w w' : World} {B e2 n2 : Nat} {v2 : Value} {xs2 : List Value} {A : Option Addr} {c : Nat} {b : List Int} (h : Row w A c b) (hg : w.grownBy w' v2.ownBlock) (h2 : w.ownsRow B e2 1 v2 n2 xs2) (he : 5 ≠ e2) : Row w' A c b :=
  h.keep fun g cs fz hk => by
    refine (hg.block g (Array.getElem?_eq_some_iff.1 hk).1 (fun e => ?_)).trans hk
    rcases h2.2 with ⟨rfl, _⟩ | ⟨g2, cap2, cur2, rfl, _, e5, _⟩
    · simp [Value.ownBlock] at e
    · simp [Value.ownBlock] at e
      subst e
      rw [e5] at hk
      cases hk
      exact he rfl
theorem NetAt.drew_ {w : World} {a M : Nat} {nx : Int} {l : List PkA} {clock : Nat} (h : NetAt w a M nx l clock) : NetAt w.drew a M nx l clock := ⟨h.blk, h.map, h.rows, h.ids, h.sorted, h.born, h.pos⟩
theorem NetAt.undrew {w : World} {a M : Nat} {nx : Int} {l : List PkA} {clock : Nat} (h : NetAt w.drew a M nx l clock) : NetAt w a M nx l clock := ⟨h.blk, h.map, h.rows, h.ids, h.sorted, h.born, h.pos⟩
theorem NetAt.other {w w' : World} {B e2 n2 : Nat} {v2 : Value} {xs2 : List Value} {a M : Nat} {nx : Int} {l : List PkA} {clock : Nat} (h : NetAt w a M nx l clock) (hg : w.grownBy w' v2.ownBlock) (h2 : w.ownsRow B e2 1 v2 n2 xs2) (he : 5 ≠ e2) (he' : 51 ≠ e2) : NetAt w' a M nx l clock := by
  refine ⟨blk_other (show Blk w a 51 _ from h.blk) hg h2 he', (hg.block M h.lt.2 (fun e => ?_)).trans h.map, fun x hx => (h.rows x hx).other hg h2 he, h.ids, h.sorted, h.born, h.pos⟩
  rcases h2.2 with ⟨rfl, _⟩ | ⟨g2, cap2, cur2, rfl, _, e5, _⟩
  · simp [Value.ownBlock] at e
  · simp [Value.ownBlock] at e
    subst e
    rw [h.map] at e5
    cases e5
theorem below_drew {w W : World} {B : Nat} (h : Below B w W) : Below B w W.drew := h.drew
theorem below_undrew {w W : World} {B : Nat} (h : Below B w W.drew) : Below B w W := ⟨h.os, h.tape, h.output, h.size, h.block⟩
theorem below_alloc {w W : World} (h : Below w.heap.size w W) (o : Obj) : Below w.heap.size w (W.alloc o) := h.alloc h.size _
theorem below_other {w W W' : World} {e2 n2 : Nat} {v2 : Value} {xs2 : List Value} (h : Below w.heap.size w W) (hg : W.grownBy W' v2.ownBlock) (h2 : W.ownsRow w.heap.size e2 1 v2 n2 xs2) : Below w.heap.size w W' :=
  h.grown hg h.size (fun k e => by
    rcases h2.2 with ⟨rfl, _⟩ | ⟨g2, cap2, cur2, rfl, h3, _⟩
    · simp [Value.ownBlock] at e
    · simp [Value.ownBlock] at e
      omega)
theorem reads_one {w : World} {g : Nat} {t : TypeId} {u : Value} (h : Blk w g t #[u]) : Reads w w.heap.size 1 (some ⟨g, 0, none⟩) 1 [u] :=
  ⟨rfl, fun _ => ⟨_, rfl, h.lt, fun j x hx => by
    obtain rfl : j = 0 := by have := (List.getElem?_eq_some_iff.1 hx).1; simpa using this
    cases hx
    exact h.cell 0⟩⟩
theorem step_push {P : Program} {w : World} {ops : Array Oper} {o : Oper} {a : Act} {K : Act → World → Prop} {Q : Exit → Act → World → Prop} {E : Prop} (hgd : o.guard = none) (s x : Operand) (t : TypeId)
    (ho : o.op = .call { callee := .builtin .append, args := #[s, x], argTypes := #[t, t] })
    (base : Nat) (e : TypeId) (i : TypeInfo) (z : Value) (bytes : Nat) (ht : P.underlying t = some (.slice e)) (hi : P.info? e = some i) (hz : i.zero = some z)
    (hsize : i.size = 1) (hby : i.bytes = bytes) (hzs : z.cells.size = 1)
    (v : Value) (n : Nat) (xs : List Value) (hs : a.eval s = v) (hown : w.ownsRow base e 1 v n xs)
    (g : Nat) (u : Value) (hx : a.eval x = .slice (some ⟨g, 0, none⟩) 1 1) (hb : Blk w g e #[u]) (h1 : u.oneCell' = true)
    (h63 : n + 1 ≤ maxLen) (hbytes : (n + 1) * bytes ≤ 140737488355328) (hbase : base ≤ w.heap.size)
    (h : ∀ v' w', w'.ownsRow base e 1 v' (n + 1) (xs ++ [u]) → w.grownBy w' v.ownBlock → w.ownsRow base e 1 v n xs → K (a.put o.dst v') w') :
    if Region.wanted o (yielded ops a.tmps) = true then Oper.wp P o a w K Q else E :=
  step_append_any w hgd s x t ho base e i z 1 bytes ht hi hz hsize hby hzs (by omega) v n xs hs hown w.heap.size (some ⟨g, 0, none⟩) 1 1 [u] hx (reads_one hb) (fun y hy => by obtain rfl := List.mem_singleton.1 hy; exact h1) h63 hbytes hbase (fun v' w' a1 a2 _ => h v' w' a1 a2 hown)
/-- Between two deeds. -/
def SentRel (W : World) (a M B : Nat) (ds : List Dd) (vs vt i : Value) (wr : World) : Prop :=
  ∃ (k : Nat) (nx : Int) (l : List PkA) (clock : Nat) (ss : List (List Int)) (ts : List Int), k ≤ ds.length ∧ i = .int .i64 k ∧ nx ≤ k ∧ ss.length ≤ k ∧ SentAt B wr a M nx l clock ss ts vs vt ∧ Below W.heap.size W wr
theorem own_at {w : World} {B e n : Nat} {v : Value} {xs : List Value} (h : w.ownsRow B e 1 v n xs) {j : Nat} (hj : j < n) : ∃ g c u, v = .slice (some ⟨g, 0, none⟩) n c ∧ g < w.heap.size ∧ xs[j]? = some u ∧ w.cell? ⟨g, j, none⟩ = some u := by
  obtain ⟨g, c, hv, _, hlt⟩ := h.form (by omega)
  have hx : j < xs.length := by have := h.1; omega
  refine ⟨g, c, xs[j], hv, hlt, List.getElem?_eq_getElem hx, ?_⟩
  have := h.cells (g := g) (by rw [hv]; rfl) j xs[j] (List.getElem?_eq_getElem hx)
  have e : (⟨g, 0, none⟩ : Addr).add j = ⟨g, j, none⟩ := by unfold Addr.add; split <;> simp_all
  rw [e] at this
  exact this
/-- The k-th text that was sent is it. -/
def Hit (ss : List (List Int)) (ts : List Int) (p : Pk) (j : Nat) : Prop := ∃ s, ts[j]? = some p.to ∧ ss[j]? = some s ∧ nearB (toStr s) (toStr p.b) = true
theorem hit_next {ss : List (List Int)} {ts : List Int} {p : Pk} {i : Nat} {s : List Int} (h : ∀ i', i' < i → ¬ Hit ss ts p i') (hs : ss[i]? = some s) (ht : ts[i]? = some p.to) : nearB (toStr s) (toStr p.b) = false → ∀ i', i' < i + 1 → ¬ Hit ss ts p i' := fun e i' hi' hh => by
  by_cases e' : i' = i
  · subst e'
    obtain ⟨s', h1, h2, h3⟩ := hh
    rw [hs] at h2; cases h2; rw [e] at h3; cases h3
  · exact h i' (by omega) hh
theorem hit_next' {ss : List (List Int)} {ts : List Int} {p : Pk} {i : Nat} {t : Int} (h : ∀ i', i' < i → ¬ Hit ss ts p i') (ht : ts[i]? = some t) (hn : ¬ t = p.to) : false = false → ∀ i', i' < i + 1 → ¬ Hit ss ts p i' := fun _ i' hi' hh => by
  by_cases e' : i' = i
  · subst e'
    obtain ⟨s', h1, h2, h3⟩ := hh
    rw [ht] at h1; cases h1; exact hn rfl
  · exact h i' (by omega) hh
def HitRel (ss : List (List Int)) (ts : List Int) (p : Pk) (w2 : World) (is j : Value) (wr : World) : Prop :=
  ∃ (i : Nat) (b : Bool), i ≤ ss.length ∧ j = .int .i64 i ∧ is = .bool b ∧ (b = false → ∀ i', i' < i → ¬ Hit ss ts p i') ∧ ∃ q, wr = w2.drewN q
theorem Below.of_fr {W w w' : World} {X : Nat → Prop} (hB : Below W.heap.size W w) (hf : Fr X w w') (hX : ∀ k, X k → W.heap.size ≤ k) : Below W.heap.size W w' := hB.trans (hf.below hB.size hX)
theorem SentRel.turn {W wr w2 : World} {a M : Nat} {ds : List Dd} {k : Nat} {nx : Int} {l : List PkA} {clock : Nat} {ss : List (List Int)} {ts : List Int} {vs vt : Value} {o : Obj} (ha : W.heap.size ≤ a) (hM : W.heap.size ≤ M) (hk : k < ds.length) (hnx : nx ≤ k) (hss : ss.length ≤ k)
    (hS : SentAt W.heap.size wr a M nx l clock ss ts vs vt) (hB : Below W.heap.size W wr) (hT : Turns (wr.alloc o) a M nx l clock (Sent ss ts) w2) : SentRel W a M W.heap.size ds vs vt (.int .i64 ((k + 1 : Nat) : Int)) w2 := by
  obtain ⟨nx', l', clock', h1, h2, hn, hf, hg⟩ := hT
  have hf' : Fr (fun k => k = a ∨ k = M) wr w2 := ((Fr.refl _ wr).alloc o).trans hf
  exact ⟨k + 1, nx', l', clock', ss, ts, by omega, rfl, by omega, by omega, hS.keep hB.size hf' hn hg, Below.of_fr hB hf' (by rintro k (rfl | rfl) <;> assumption)⟩
theorem SentRel.drewN {W wr : World} {a M B : Nat} {ds : List Dd} {vs vt i : Value} (h : SentRel W a M B ds vs vt i wr) (q : Nat) : SentRel W a M B ds vs vt i (wr.drewN q) := by
  obtain ⟨k, nx, l, clock, ss, ts, h1, h2, h3, h4, h5, h6⟩ := h
  exact ⟨k, nx, l, clock, ss, ts, h1, h2, h3, h4, ⟨⟨h5.net.blk, h5.net.map, h5.net.rows, h5.net.ids, h5.net.sorted, h5.net.born, h5.net.pos⟩, h5.own1, h5.own2, h5.len, h5.good, h5.short⟩, ⟨h6.os, h6.tape, h6.output, h6.size, h6.block⟩⟩
theorem SentRel.sent {W w2 : World} {a M : Nat} {ds : List Dd} {k : Nat} {nx : Int} {l : List PkA} {clock : Nat} {ss : List (List Int)} {ts : List Int} {v1 v2 : Value} {to : Int} {b : List Int} {A : Option Addr} {c : Nat} (hk : k < ds.length) (hnx : nx ≤ k) (hss : ss.length ≤ k)
    (hlen : ss.length = ts.length) (hg : ∀ x ∈ l, Sent ss ts x.p) (hsh : ∀ s ∈ ss, s.length ≤ 8000) (h0 : 0 < b.length) (h8 : b.length ≤ 8000) (hn : NetAt w2 a M (nx + 1) (l ++ [⟨⟨nx, to, b, false⟩, A, c, clock⟩]) (clock + 1)) (hB : Below W.heap.size W w2)
    (o1 : w2.ownsRow W.heap.size 9 1 v1 (ss.length + 1) ((ss.map fun b => Value.string (toStr b)) ++ [.string (toStr b)])) (o2 : w2.ownsRow W.heap.size 3 1 v2 (ts.length + 1) (ts.map (Value.int .i64) ++ [.int .i64 to])) : SentRel W a M W.heap.size ds v1 v2 (.int .i64 ((k + 1 : Nat) : Int)) w2 := by
  refine ⟨k + 1, nx + 1, _, _, ss ++ [b], ts ++ [to], by omega, rfl, by omega, by simp; omega, ⟨hn, by simpa using o1, by simpa using o2, by simp [hlen], fun x hx => ?_, fun s hs => ?_⟩, hB⟩
  · rcases List.mem_append.1 hx with hx | hx
    · exact (hg x hx).more b to
    · obtain rfl := List.mem_singleton.1 hx
      exact ⟨h0, h8, ss.length, b, by rw [hlen]; simp, by simp, fun _ => rfl, near_same b⟩
  · rcases List.mem_append.1 hs with hs | hs
    · exact hsh s hs
    · obtain rfl := List.mem_singleton.1 hs
      exact h8
set_option maxHeartbeats 4000000 in
set_option maxRecDepth 100000 in
theorem sent_any (A : Option Addr) (c : Nat) (ds : List Dd) (w : World) (h : DeedsAt w.heap.size w A ds) (hl : ds.length ≤ 9223372036854775807) :
    Calls Try.prog 4 #[.slice A ds.length c] w fun e w' => e = .returned (.bool true) ∧ Below w.heap.size w w' := by
  obtain ⟨i9, hi9, hz9, hz9', hz9''⟩ := info_parts Try.info9
  obtain ⟨i3, hi3, hz3, hz3', hz3''⟩ := info_parts Try.info3
  go_enter Try.func4, Try.ntmps4
  go_wp2_with fail
  go_at_call 6
  refine (small_any A c ds w h hl).mono ?_
  rintro e w1 ⟨b, rfl, rfl, hb⟩
  cases b
  · clear hb
    go_wp2_with (go_at_call 7; refine (live_any _).mono ?_; rintro e w1 ⟨rfl, hb⟩)
    go_ret
    exact ⟨rfl, hb⟩
  · obtain ⟨hd, hdb⟩ := hb rfl
    have hd' : ds.length ≤ 150 := hd
    have HDB := Lib.hid hdb
    clear hb hdb
    go_wp2_with (go_at_call 8; refine (New_any _).mono ?_; rintro e w1 ⟨rfl, hnet, hb1⟩)
    obtain ⟨a, ha⟩ : ∃ a, a = w.heap.size + 1 := ⟨_, rfl⟩
    obtain ⟨M, hM⟩ : ∃ M, M = w.heap.size := ⟨_, rfl⟩
    rw [← ha, ← hM] at hnet
    rw [← ha]
    have ha' : w.heap.size ≤ a := by omega
    have hM' : w.heap.size ≤ M := by omega
    clear ha hM
    have hB1 : Below w.heap.size w w1 := hb1
    have hsz : w.heap.size ≤ w1.heap.size := hb1.size
    go_loopw [4, 5, 6] (fun vs vt i wr => SentRel w a M w.heap.size ds vs vt i wr) (fun _ _ i _ => ds.length - (intOf i).toNat)
    case atStart => exact ⟨0, 0, [], 0, [], [], Nat.zero_le _, rfl, Int.le_refl _, Nat.le_refl _, ⟨hnet, World.ownsRow_nil _ _ _ _, World.ownsRow_nil _ _ _ _, rfl, (fun x hx => by cases hx), (fun s hs => by cases hs)⟩, hB1⟩
    case round =>
      clear hnet hb1 hB1 hsz
      obtain ⟨k, nx, l, clock, ss, ts, hk, rfl, hnx, hss, hS, hB⟩ := hrel
      by_cases hlt : k < ds.length
      · have d1 : decide (k < ds.length) = true := by simpa using hlt
        obtain ⟨d, hdk⟩ : ∃ d, ds[k]? = some d := ⟨_, List.getElem?_eq_getElem hlt⟩
        obtain ⟨ad, rfl, hadl, hD⟩ := (h.below hB) k d hdk
        have e0 := hD.c0
        have e1 := hD.c1
        have e2 := hD.c2
        have e3 := hD.c3
        have e4 := hD.c4
        have hnb : nx < 1000000 := by omega
        have hBs : w.heap.size ≤ wr.heap.size := hB.size
        obtain ⟨Av, cv, rfl⟩ := ownsRow_succ_any hS.own1
        obtain ⟨At, ct, rfl⟩ := ownsRow_succ_any hS.own2
        have hgl : ∀ x ∈ l, x.p.b.length ≤ 1000000 := fun x hx => by have := (hS.good x hx).2.1; omega
        by_cases k0 : d.kind = 0
        · have q0 : (d.kind == 0) = true := by simpa using k0
          clear k0
          by_cases hok : (d.n = 0 ∨ d.n = 1) ∧ 0 < d.b.length ∧ d.b.length ≤ 8000 ∧ l.length < 64
          · obtain ⟨g1, g2, g3, g4⟩ := hok
            have hdr := hD.row
            go_wp2_with (first
              | (go_at_call 12; refine (Send_ok (by simp; omega) (hS.net.alloc _) d.n d.A d.c d.b g1 g2 g3 (hdr.below ((Below.refl _ _).alloc hBs _)) g4 hnb).mono ?_; rintro e w2 ⟨rfl, ⟨A', c', hnet2⟩, hf2⟩)
              | (go_at_call 13; refine (num_any _ _).mono ?_; rintro e w3 ⟨rfl, rfl⟩))
            have hfr1 : Fr (fun k => k = a ∨ k = M) wr w2 := ((Fr.refl _ wr).alloc _).trans hf2
            have bx : Blk w2 wr.heap.size 32 #[.int .i64 d.kind, .int .i64 d.n, .int .i64 d.at_, .int .u8 d.by_, .slice d.A d.b.length d.c] :=
              (Blk.new wr 32 _).fr hf2 (by have := hS.net.lt; omega)
            have x1 : w2.cell? ⟨wr.heap.size, 1, none⟩ = some (.int .i64 d.n) := bx.cell 1
            have x4 : w2.cell? ⟨wr.heap.size, 4, none⟩ = some (.slice d.A d.b.length d.c) := bx.cell 4
            have hS2 := rows_keep hS hB.size hfr1
            have own1 : w2.ownsRow w.heap.size 9 1 (.slice Av ss.length cv) ss.length (ss.map fun b => Value.string (toStr b)) := hS2.1
            have own2 : w2.ownsRow w.heap.size 3 1 (.slice At ts.length ct) ts.length (ts.map (Value.int .i64)) := hS2.2
            have hb2 : w.heap.size ≤ w2.heap.size := Nat.le_trans hB.size hfr1.size
            have hBw2 : Below w.heap.size w w2 := Below.of_fr hB hfr1 (by rintro k (rfl | rfl) <;> assumption)
            have hrw : RowI w.heap.size w d.A d.c d.b := (h k d hdk).elim fun ad' hh => hh.2.2.row
            have hcv := conv_row (hrw.below hBw2) g2
            have hcvd := conv_row (hrw.below hBw2.drew) g2
            have hsl : ss.length ≤ 150 := by omega
            have htl : ts.length ≤ 150 := by have := hS.len; omega
            have hl2 := hS.net.lt
            go_region_held3 (fun w' => w'.cell? ⟨wr.heap.size, 1, none⟩ = some (.int .i64 d.n) ∧ w'.cell? ⟨wr.heap.size, 4, none⟩ = some (.slice d.A d.b.length d.c) ∧ (convert 30 9 (.slice d.A d.b.length d.c)).run Try.prog w' = .ok (.string (toStr d.b)) w' ∧ Blk w' wr.heap.size 32 #[.int .i64 d.kind, .int .i64 d.n, .int .i64 d.at_, .int .u8 d.by_, .slice d.A d.b.length d.c] ∧ NetAt w' a M (nx + 1) (l ++ [⟨⟨nx, d.n, d.b, false⟩, A', c', clock⟩]) (clock + 1) ∧ Below w.heap.size w w')
              (first
                | exact ⟨x1, x4, hcvd, bx, hnet2.drew_, hBw2.drew⟩
                | (go_split_ands; exact ⟨(Blk.cell (t := 32) (cs := #[.int .i64 d.kind, .int .i64 d.n, .int .i64 d.at_, .int .u8 d.by_, .slice d.A d.b.length d.c]) (by first | exact Blk.drew (Blk.alloc (Blk.undrew (by assumption)) _) | exact Blk.alloc (by assumption) _ | exact blk_other (by assumption) hgA hpA (by decide) | exact blk_other (by assumption) hgB hpB (by decide)) 1), (Blk.cell (t := 32) (cs := #[.int .i64 d.kind, .int .i64 d.n, .int .i64 d.at_, .int .u8 d.by_, .slice d.A d.b.length d.c]) (by first | exact Blk.drew (Blk.alloc (Blk.undrew (by assumption)) _) | exact Blk.alloc (by assumption) _ | exact blk_other (by assumption) hgA hpA (by decide) | exact blk_other (by assumption) hgB hpB (by decide)) 4), conv_row (RowI.below hrw (by first | exact below_drew (below_alloc (below_undrew (by assumption)) _) | exact below_alloc (by assumption) _ | exact below_other (by assumption) hgA hpA | exact below_other (by assumption) hgB hpB)) g2, (by first | exact Blk.drew (Blk.alloc (Blk.undrew (by assumption)) _) | exact Blk.alloc (by assumption) _ | exact blk_other (by assumption) hgA hpA (by decide) | exact blk_other (by assumption) hgB hpB (by decide)), (by first | exact NetAt.drew_ (NetAt.alloc (NetAt.undrew (by assumption)) _) | exact NetAt.alloc (by assumption) _ | exact NetAt.other (by assumption) hgA hpA (by decide) (by decide) | exact NetAt.other (by assumption) hgB hpB (by decide) (by decide)), (by first | exact below_drew (below_alloc (below_undrew (by assumption)) _) | exact below_alloc (by assumption) _ | exact below_other (by assumption) hgA hpA | exact below_other (by assumption) hgB hpB)⟩))
              ((first
                | (refine step_push (by rfl) (.tmp 56) (.tmp 60) 34 (by rfl) w.heap.size 9 i9 _ 16 Try.underlying34 hi9 hz9 hz9' hz9'' rfl (.slice Av ss.length cv) ss.length (ss.map fun b => Value.string (toStr b)) (by rfl) (by first | exact (own1.alloc _).drew | exact ((own1.alloc _).alloc _).drew | exact own_other (((own1.alloc _).alloc _).drew) hgB hpB (by decide) | exact (own_other ((own1.alloc _).drew) hgB hpB (by decide)).alloc _) _ (.string (toStr d.b)) (by rfl) (by first | exact (Blk.new w2 9 _).drew | exact ((Blk.new w2 9 _).alloc _).drew | (simpa using (Blk.new (w2.alloc _) 9 _).drew) | exact blk_other (((Blk.new w2 9 _).alloc _).drew) hgB hpB (by decide) | exact blk_other (by simpa using (Blk.new (w2.alloc _) 9 _).drew) hgB hpB (by decide) | exact Blk.new wB 9 _) rfl (by simp only [maxLen]; omega) (by omega) (by first | (simp; omega) | (have := hgB.size; simp at this; simp; omega)) ?_; intro v1 wA hoA hgA hpA)
                | (refine step_push (by rfl) (.tmp 62) (.tmp 65) 35 (by rfl) w.heap.size 3 i3 _ 8 Try.underlying35 hi3 hz3 hz3' hz3'' rfl (.slice At ts.length ct) ts.length (ts.map (Value.int .i64)) (by rfl) (by first | exact (own2.alloc _).drew | exact ((own2.alloc _).alloc _).drew | exact own_other (((own2.alloc _).alloc _).drew) hgA hpA (by decide) | exact (own_other ((own2.alloc _).drew) hgA hpA (by decide)).alloc _) _ (.int .i64 d.n) (by rfl) (by first | exact (Blk.new w2 3 _).drew | exact ((Blk.new w2 3 _).alloc _).drew | (simpa using (Blk.new (w2.alloc _) 3 _).drew) | exact blk_other (((Blk.new w2 3 _).alloc _).drew) hgA hpA (by decide) | exact blk_other (by simpa using (Blk.new (w2.alloc _) 3 _).drew) hgA hpA (by decide) | exact Blk.new wA 3 _) rfl (by simp only [maxLen]; omega) (by omega) (by first | (simp; omega) | (have := hgA.size; simp at this; simp; omega)) ?_; intro v2 wB hoB hgB hpB)))
            all_goals
              go_wp2
              go_roundw
              case rel => go_split_ands; exact SentRel.sent hlt hnx hss hS.len hS.good hS.short g2 g3 (by assumption) (by assumption) (by first | exact hoA | exact own_other hoA hgB hpB (by decide) | exact own_other (hoA.alloc _) hgB hpB (by decide)) (by first | exact hoB | exact own_other hoB hgA hpA (by decide) | exact own_other (hoB.alloc _) hgA hpA (by decide))
              case measure => simp [intOf]; omega
          · obtain ⟨q, hq, hcall⟩ := Send_err a M nx l clock d.n d.A d.c d.b (by have := HDB.out d (List.mem_of_getElem? hdk); omega) hok
            have hdr := hD.row
            go_wp2_with (first
              | (go_at_call 12; refine (hcall _ (by simp; omega) (hS.net.alloc _) (hdr.below ((Below.refl _ _).alloc hBs _))).mono ?_; rintro e w2 ⟨rfl, hbb⟩)
              | (go_at_call 13; refine (num_any _ _).mono ?_; rintro e w3 ⟨rfl, rfl⟩))
            go_roundw
            case rel => exact SentRel.turn ha' hM' hlt hnx hss hS hB (Turns.below (hS.net.alloc _) hS.good hbb)
            case measure => simp [intOf]; omega
        have q0 : (d.kind == 0) = false := by simpa using k0
        by_cases k1 : d.kind = 1
        · have q1 : (d.kind == 1) = true := by simpa using k1
          clear k1 k0
          cases hlk : look d.n l 0 with
          | none =>
            by_cases hz : 0 < ss.length
            · have z1 : decide (0 < ss.length) = true := by simpa using hz
              go_wp2_with (first | (go_at_call 14; refine (Deliver_none (hS.net.alloc _) hlk).mono ?_; rintro e w2 ⟨rfl, hbb⟩) | (go_at_call 13; refine (num_any _ _).mono ?_; rintro e w3 ⟨rfl, rfl⟩))
              refine wp_loop_rounds 1 ?_
              rw [rounds_succ]
              go_wp2
              go_roundw
              case rel => exact SentRel.turn ha' hM' hlt hnx hss hS hB (Turns.below (hS.net.alloc _) hS.good hbb)
              case measure => simp [intOf]; omega
            · have z1 : decide (0 < ss.length) = false := by simpa using hz
              go_wp2_with (first | (go_at_call 14; refine (Deliver_none (hS.net.alloc _) hlk).mono ?_; rintro e w2 ⟨rfl, hbb⟩) | (go_at_call 13; refine (num_any _ _).mono ?_; rintro e w3 ⟨rfl, rfl⟩))
              refine wp_loop_rounds 1 ?_
              rw [rounds_succ]
              go_wp2
              go_roundw
              case rel => exact SentRel.turn ha' hM' hlt hnx hss hS hB (Turns.below (hS.net.alloc _) hS.good hbb)
              case measure => simp [intOf]; omega
          | some r =>
            obtain ⟨j, y⟩ := r
            have hyl : y ∈ l := List.mem_of_getElem? (look_spec _ _ _ _ _ hlk).2.1
            go_wp2_with (first | (go_at_call 14; refine (Deliver_some (hS.net.alloc _) hlk).mono ?_; rintro e w2 ⟨rfl, hnet2, hf2⟩) | (go_at_call 13; refine (num_any _ _).mono ?_; rintro e w3 ⟨rfl, rfl⟩))
            have hfr : Fr (fun k => k = a ∨ k = M) (wr.alloc (.cells #[.int .i64 d.kind, .int .i64 d.n, .int .i64 d.at_, .int .u8 d.by_, .slice d.A d.b.length d.c] 32)) w2 := hf2.drop
            have hfr1 : Fr (fun k => k = a ∨ k = M) wr w2 := ((Fr.refl _ wr).alloc _).trans hfr
            have hT : Turns (wr.alloc (.cells #[.int .i64 d.kind, .int .i64 d.n, .int .i64 d.at_, .int .u8 d.by_, .slice d.A d.b.length d.c] 32)) a M nx l clock (Sent ss ts) w2 := ⟨nx, _, clock, Int.le_refl _, by omega, hnet2, hfr, fun x hx => hS.good x (mem_erase hx)⟩
            have hS2 : SentAt w.heap.size w2 a M nx (l.eraseIdx j) clock ss ts (.slice Av ss.length cv) (.slice At ts.length ct) := hS.keep hB.size hfr1 hnet2 (fun x hx => hS.good x (mem_erase hx))
            have hrow : Row w2 y.A y.c y.p.b := (hS.net.rows y hyl).keep (Keep8.of_fr hfr1 hS.net.not8)
            go_loopw [13, 14] (fun is j wr' => HitRel ss ts y.p w2 is j wr') (fun _ j _ => ss.length - (intOf j).toNat)
            case atStart => exact ⟨0, false, Nat.zero_le _, rfl, rfl, fun _ i' hi' => absurd hi' (by omega), 0, rfl⟩
            case round =>
              obtain ⟨i, b, hi, rfl, rfl, hno, q, rfl⟩ := hrel
              have HNO := Lib.hid hno
              clear hno
              by_cases hil : i < ss.length
              · have z1 : decide (i < ss.length) = true := by simpa using hil
                cases b with
                | true =>
                  go_wp2
                  go_roundw
                  case rel => exact SentRel.drewN (SentRel.turn ha' hM' hlt hnx hss hS hB hT) q
                  case measure => simp [intOf]; omega
                | false =>
                  obtain ⟨s, hs⟩ : ∃ s, ss[i]? = some s := ⟨_, List.getElem?_eq_getElem hil⟩
                  have hilt : i < ts.length := by have := hS.len; omega
                  obtain ⟨t, ht⟩ : ∃ t, ts[i]? = some t := ⟨_, List.getElem?_eq_getElem hilt⟩
                  obtain ⟨g1, c1, u1, he1, _, hx1, hc1⟩ := own_at hS2.own1 hil
                  obtain ⟨g2, c2, u2, he2, _, hx2, hc2⟩ := own_at hS2.own2 hilt
                  simp only [Value.slice.injEq] at he1 he2
                  obtain ⟨rfl, _, rfl⟩ := he1
                  obtain ⟨rfl, _, rfl⟩ := he2
                  rw [List.getElem?_map, hs] at hx1
                  rw [List.getElem?_map, ht] at hx2
                  simp only [Option.map_some, Option.some.injEq] at hx1 hx2
                  subst hx1 hx2
                  obtain ⟨W, hW⟩ : ∃ W, w2.drewN q = W := ⟨_, rfl⟩
                  have hc1 : W.cell? ⟨g1, i, none⟩ = some (.string (toStr s)) := by rw [← hW]; exact hc1
                  have hc2 : W.cell? ⟨g2, i, none⟩ = some (.int .i64 t) := by rw [← hW]; exact hc2
                  have hcv : ∀ n, (convert 30 9 (.slice y.A y.p.b.length y.c)).run Try.prog (W.drewN n) = .ok (.string (toStr y.p.b)) (W.drewN n) := fun n => by rw [← hW]; exact conv_row (W := (w2.drewN q).drewN n) (Row.rowI (w := (w2.drewN q).drewN n) hrow) (hS.good y hyl).1
                  rw [hW]
                  have HW := Lib.hid hW
                  clear hW
                  have i0 : (0 : Int) ≤ (i : Int) := by omega
                  have i1 : (i : Int) < (ss.length : Int) := by omega
                  have i2 : (i : Int) < (ts.length : Int) := by omega
                  have hsl : (toStr s).size ≤ 1000000 := by rw [toStr_size]; have := hS.short s (List.mem_of_getElem? hs); omega
                  have hyl2 : (toStr y.p.b).size ≤ 1000000 := by rw [toStr_size]; have := (hS.good y hyl).2.1; omega
                  by_cases hty : t = y.p.to
                  · have z2 : (t == y.p.to) = true := by simpa using hty
                    go_wp2_with fail
                    go_quiet ((go_at_call 15; exact Calls.quiet_of (near_any _ _ _ hsl hyl2)))
                    go_wp2
                    go_roundw
                    case rel =>
                      subst hty
                      exact ⟨i + 1, nearB (toStr s) (toStr y.p.b), by omega, by go_num, rfl, hit_next (HNO.out trivial) hs ht, by rw [← HW.out, World.drewN_drewN]; exact ⟨_, rfl⟩⟩
                    case measure => simp [intOf]; omega
                  · have z2 : (t == y.p.to) = false := by simpa using hty
                    go_wp2_with fail
                    go_quiet (fail)
                    go_wp2
                    go_roundw
                    case rel => exact ⟨i + 1, false, by omega, by go_num, rfl, hit_next' (HNO.out trivial) ht hty, by rw [← HW.out, World.drewN_drewN]; exact ⟨_, rfl⟩⟩
                    case measure => simp [intOf]; omega
              · have z1 : decide (i < ss.length) = false := by simpa using hil
                cases b with
                | true =>
                  go_wp2
                  go_roundw
                  case rel => exact SentRel.drewN (SentRel.turn ha' hM' hlt hnx hss hS hB hT) q
                  case measure => simp [intOf]; omega
                | false =>
                  exfalso
                  obtain ⟨_, _, j', s, h3, h4, _, h6⟩ := hS.good y hyl
                  exact HNO.out rfl j' (by have := (List.getElem?_eq_some_iff.1 h4).1; omega) ⟨s, h3, h4, h6⟩
        have q1 : (d.kind == 1) = false := by simpa using k1
        by_cases k2 : d.kind = 2
        · have q2 : (d.kind == 2) = true := by simpa using k2
          clear k2 k1 k0
          go_wp2_with (go_at_call 16; refine (Drop_any (hS.net.alloc _) d.n hS.good).mono ?_; rintro e w2 ⟨q, rfl, hT⟩)
          go_roundw
          case rel => exact SentRel.turn ha' hM' hlt hnx hss hS hB hT
          case measure => simp [intOf]; omega
        have q2 : (d.kind == 2) = false := by simpa using k2
        by_cases k3 : d.kind = 3
        · have q3 : (d.kind == 3) = true := by simpa using k3
          clear k3 k2 k1 k0
          go_wp2_with (go_at_call 17; refine (Double_any (hS.net.alloc _) d.n hnb hS.good (fun p i hp => hp)).mono ?_; rintro e w2 ⟨p, q, rfl, hT⟩)
          go_roundw
          case rel => exact SentRel.turn ha' hM' hlt hnx hss hS hB hT
          case measure => simp [intOf]; omega
        have q3 : (d.kind == 3) = false := by simpa using k3
        clear k3 k2 k1 k0
        have hby := hD.by0
        go_wp2_with (go_at_call 18; refine (Spoil_any (hS.net.alloc _) d.n d.at_ d.by_ hby hS.good hgl (fun p k u hp hs => Sent.spoil p k u hp hs)).mono ?_; rintro e w2 ⟨q, rfl, hT⟩)
        go_roundw
        case rel => exact SentRel.turn ha' hM' hlt hnx hss hS hB hT
        case measure => simp [intOf]; omega
      · have d1 : decide (k < ds.length) = false := by simpa using hlt
        go_wp2_with (go_at_call 7; refine (live_any _).mono ?_; rintro e w1 ⟨rfl, hb⟩)
        go_ret
        exact ⟨rfl, hB.trans (hb.mono hB.size)⟩
end Go.Proofs.Ytlhmhalamfjhjaa
