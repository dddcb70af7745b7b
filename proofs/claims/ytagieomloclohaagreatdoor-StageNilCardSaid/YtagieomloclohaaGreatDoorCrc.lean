/- Known functions besides: CRC-32C, by four bits and bit by bit. -/
import Derived.Test.YtagieomloclohaaGreatDoorEvx
import Derived.LoopTactic
import Derived.WalkSpells
import Derived.WalkKit
import Derived.Lib.Hide
import Derived.WalkLawsBesides
import Derived.Laws.BitsAllLaws
set_option linter.unusedVariables false
namespace Go.Proofs.YtagieomloclohaaGreatDoor.Ev
open Go.RowKit Go.Extern Go.Lib
variable {ω : Nat → Value}

theorem ret_intC {k : IntKind} {a b : Int} (h : a = b) : Ending.returned (.int k a) = .returned (.int k b) := by rw [h]
/-- Four bits more. -/
def c4 (tb : Nat → Nat) (c : Nat) : Nat := Nat.xor (Nat.shiftRight c 4) (tb (Nat.land c 15))
def cb (tb : Nat → Nat) (c b : Nat) : Nat := c4 tb (c4 tb (Nat.xor c b))
def cl (tb : Nat → Nat) (c : Nat) (l : List Nat) : Nat := l.foldl (cb tb) c

theorem xor_nat {x y : Nat} (hx : x < 4294967296) (hy : y < 4294967296) : bits .xor .u32 (x : Int) (y : Int) = ((Nat.xor x y : Nat) : Int) := by
  rw [u32_xor _ _ (by omega) (by omega) (by omega) (by omega)]
  simp only [Int.toNat_natCast]
  rfl
theorem and_nat {x y : Nat} (hx : x < 4294967296) (hy : y < 4294967296) : bits .and .u32 (x : Int) (y : Int) = ((Nat.land x y : Nat) : Int) := by
  rw [u32_and _ _ (by omega) (by omega) (by omega) (by omega)]
  simp only [Int.toNat_natCast]
  rfl
theorem xor_lt {x y : Nat} (hx : x < 4294967296) (hy : y < 4294967296) : Nat.xor x y < 4294967296 := Nat.xor_lt_two_pow (n := 32) hx hy
theorem and_lt {x : Nat} : Nat.land x 15 < 16 := Nat.lt_of_le_of_lt Nat.and_le_right (by decide)
theorem shr4 (x : Nat) : ((Nat.shiftRight x 4 : Nat) : Int) = (x : Int) / 16 := by
  have : Nat.shiftRight x 4 = x / 16 := Nat.shiftRight_eq_div_pow x 4
  rw [this]; simp
theorem shr4_lt {x : Nat} (hx : x < 4294967296) : Nat.shiftRight x 4 < 4294967296 := by
  have : Nat.shiftRight x 4 = x / 16 := Nat.shiftRight_eq_div_pow x 4
  omega
theorem c4_lt {tb : Nat → Nat} (htb : ∀ i, tb i < 4294967296) {x : Nat} (hx : x < 4294967296) : c4 tb x < 4294967296 := xor_lt (shr4_lt hx) (htb _)
theorem cb_lt {tb : Nat → Nat} (htb : ∀ i, tb i < 4294967296) {x y : Nat} (hx : x < 4294967296) (hy : y < 256) : cb tb x y < 4294967296 := c4_lt htb (c4_lt htb (xor_lt hx (by omega)))
theorem take_snocN (l : List Nat) (k : Nat) (h : k < l.length) : l.take (k + 1) = l.take k ++ [l[k]?.getD 0] := by
  rw [List.take_succ_eq_append_getElem h]; simp [h]
theorem cl_step (tb : Nat → Nat) (c : Nat) (l : List Nat) (k : Nat) (h : k < l.length) : cl tb c (l.take (k + 1)) = cb tb (cl tb c (l.take k)) (l[k]?.getD 0) := by
  unfold cl
  rw [take_snocN l k h, List.foldl_append]; rfl
theorem cl_lt {tb : Nat → Nat} (htb : ∀ i, tb i < 4294967296) : ∀ (l : List Nat) (c : Nat), c < 4294967296 → (∀ x ∈ l, x < 256) → cl tb c l < 4294967296
  | [], _, hc, _ => hc
  | x :: l, c, hc, h => cl_lt htb l (cb tb c x) (cb_lt htb hc (h x (by simp))) (fun y hy => h y (by simp [hy]))
theorem add_blockC (a : Addr) (n : Nat) : (a.add n).block = a.block := by unfold Addr.add; split <;> rfl

set_option maxHeartbeats 1000000 in
theorem over_any (tb : Nat → Nat) (htb : ∀ i, tb i < 4294967296) (cs : Array Value) (hcs : ∀ i, i < 16 → cs[i]? = some (.int .u32 (tb i : Nat))) (c : Nat) (hc : c < 4294967296) (A : Option Addr) (cp : Nat) (l : List Nat) (w : World) (hl : l.length ≤ 1000000) (hb : ∀ x ∈ l, x < 256)
    (hr : 0 < l.length → ∃ ad, A = some ad ∧ ad.block < w.heap.size ∧ ∀ i, i < l.length → w.cell? (ad.add i) = some (.int .u8 (l[i]?.getD 0 : Nat))) :
    Calls Tryz.prog 112 #[.agg cs, .int .u32 (c : Nat), .slice A l.length cp] w fun e w' => e = .returned (.int .u32 (cl tb c l : Nat)) ∧ Below w.heap.size w w' := by
  have HC := Lib.hid hcs
  have HTB := Lib.hid htb
  have HBY := Lib.hid hb
  clear hcs htb hb
  go_enter Tryz.func112, Tryz.ntmps112
  go_wp2
  go_loopw [1, 11] (fun x i wr => ∃ k : Nat, k ≤ l.length ∧ i = .int .i64 k ∧ x = .int .u32 (cl tb c (l.take k) : Nat) ∧ wr.heap[w.heap.size]? = some (.cells cs 199 (0, 0)) ∧ Below w.heap.size w wr)
    (fun _ i _ => l.length - (RowKit.intOf i).toNat)
  case atStart => exact ⟨0, Nat.zero_le _, rfl, rfl, heap_alloc_new _ _, (Below.refl _ _).alloc (Nat.le_refl _) _⟩
  case round =>
    obtain ⟨k, hk, rfl, rfl, hblk, hbel⟩ := hrel
    have HT : Hid (∀ i, i < 16 → wr.cell? ⟨w.heap.size, i, none⟩ = some (.int .u32 (tb i : Nat))) := Lib.hid fun i hi => by rw [cell_of_row _ _ _ _ _ _ hblk]; exact HC.out i hi
    have HB := Lib.hid hblk
    clear hblk
    by_cases hlt : k < l.length
    · obtain ⟨ad, rfl, hB, hcl⟩ := hr (by omega)
      have hcell := (hbel.cell (p := ad.add k) (by rw [add_blockC]; exact hB)).trans (hcl k hlt)
      clear hcl
      have hy : l[k]?.getD 0 < 256 := HBY.out _ (by simp [hlt])
      have hx : cl tb c (l.take k) < 4294967296 := cl_lt HTB.out _ _ hc fun y hy => HBY.out y (List.mem_of_mem_take hy)
      have HS := Lib.hid (cl_step tb c l k hlt)
      clear hr
      generalize cl tb c (l.take k) = x at hx HS
      generalize l[k]?.getD 0 = y at hcell hy HS
      obtain ⟨z1, H1⟩ : ∃ z, Hid (z = Nat.xor x y) := ⟨_, Lib.hid rfl⟩
      have e1 : bits .xor .u32 (x : Int) (y : Int) = (z1 : Int) := by rw [H1.out]; exact xor_nat hx (by omega)
      have z1lt : z1 < 4294967296 := by rw [H1.out]; exact xor_lt hx (by omega)
      obtain ⟨i1, I1⟩ : ∃ z, Hid (z = Nat.land z1 15) := ⟨_, Lib.hid rfl⟩
      have i1lt : i1 < 16 := by rw [I1.out]; exact and_lt
      have e2 : bits .and .u32 (z1 : Int) 15 = (i1 : Int) := by rw [I1.out]; exact and_nat (y := 15) z1lt (by omega)
      have c1 := HT.out i1 i1lt
      have t1lt := HTB.out i1
      obtain ⟨t1, T1⟩ : ∃ z, Hid (z = tb i1) := ⟨_, Lib.hid rfl⟩
      rw [← T1.out] at c1 t1lt
      obtain ⟨z2, H2⟩ : ∃ z, Hid (z = Nat.xor (Nat.shiftRight z1 4) t1) := ⟨_, Lib.hid rfl⟩
      have e3 : bits .xor .u32 ((z1 : Int) / 16) (t1 : Int) = (z2 : Int) := by rw [H2.out, ← shr4]; exact xor_nat (shr4_lt z1lt) t1lt
      have z2lt : z2 < 4294967296 := by rw [H2.out]; exact xor_lt (shr4_lt z1lt) t1lt
      obtain ⟨i2, I2⟩ : ∃ z, Hid (z = Nat.land z2 15) := ⟨_, Lib.hid rfl⟩
      have i2lt : i2 < 16 := by rw [I2.out]; exact and_lt
      have e4 : bits .and .u32 (z2 : Int) 15 = (i2 : Int) := by rw [I2.out]; exact and_nat (y := 15) z2lt (by omega)
      have c2 := HT.out i2 i2lt
      have t2lt := HTB.out i2
      obtain ⟨t2, T2⟩ : ∃ z, Hid (z = tb i2) := ⟨_, Lib.hid rfl⟩
      rw [← T2.out] at c2 t2lt
      obtain ⟨z3, H3⟩ : ∃ z, Hid (z = Nat.xor (Nat.shiftRight z2 4) t2) := ⟨_, Lib.hid rfl⟩
      have e5 : bits .xor .u32 ((z2 : Int) / 16) (t2 : Int) = (z3 : Int) := by rw [H3.out, ← shr4]; exact xor_nat (shr4_lt z2lt) t2lt
      go_wp2
      go_roundw
      case rel =>
        refine ⟨k + 1, by omega, by go_num, ?_, HB.out, hbel⟩
        rw [HS.out, H3.out, T2.out, I2.out, H2.out, T1.out, I1.out, H1.out]
        rfl
      case measure => simp [RowKit.intOf]; omega
    · go_wp2
      go_ret
      have hkl : k = l.length := by omega
      exact ⟨by rw [hkl, List.take_length]; rfl, hbel⟩

/-! Bytes as numbers. -/
def natsOf : List Value → Option (List Nat)
  | [] => some []
  | .int .u8 (.ofNat n) :: r => match natsOf r with
    | some l => cond (Nat.blt n 256) (some (n :: l)) none
    | none => none
  | _ => none
theorem nats_sound : ∀ {l : List Value} {ns : List Nat}, natsOf l = some ns → l = ns.map (fun n => Value.int .u8 (n : Nat)) ∧ ∀ x ∈ ns, x < 256
  | [], ns, h => by simp [natsOf] at h; subst h; exact ⟨rfl, by simp⟩
  | v :: l, ns, h => by
    unfold natsOf at h
    split at h
    · rename_i e; cases e
    · rename_i n r e
      cases e
      split at h
      · rename_i l' hl'
        obtain ⟨e1, e2⟩ := nats_sound hl'
        cases hb : Nat.blt n 256 with
        | false => rw [hb] at h; cases h
        | true =>
          rw [hb] at h
          cases h
          rw [Nat.blt_eq] at hb
          refine ⟨by rw [e1]; rfl, fun x hx => ?_⟩
          rcases List.mem_cons.1 hx with rfl | hx
          · exact hb
          · exact e2 x hx
      · cases h
    · cases h
noncomputable def rdNats (s : AS) (v : Value) : Option (List Nat) := match v with
  | .slice none 0 0 => some []
  | .slice (some p) n _ => match readN s p n with
    | some l => natsOf l
    | none => none
  | _ => none
section
variable {B : Nat} {X : Aux} {m : M ω} {s s' : AS} {w : World}
theorem LRel.nats {ns : List Nat} {l' : List Value} (h : LRel m (ns.map fun n => Value.int .u8 (n : Nat)) l') : l' = ns.map fun n => Value.int .u8 (n : Nat) := by
  have e : (ns.map fun n => Value.int .u8 (n : Nat)) = (ns.map fun n : Nat => (n : Int)).map (Value.int .u8) := by simp
  rw [e] at h ⊢
  exact h.ints
theorem rdNats_ok (hs : SR B X m s w) {v v' : Value} {l : List Nat} (hv : VRel m v v') (h : rdNats s v = some l) :
    (∀ x ∈ l, x < 256) ∧ ∃ A cp, v' = .slice A l.length cp ∧ (0 < l.length → ∃ ad, A = some ad ∧ ad.block < w.heap.size ∧ ∀ i, i < l.length → w.cell? (ad.add i) = some (.int .u8 (l[i]?.getD 0 : Nat))) := by
  unfold rdNats at h
  split at h
  · cases h
    obtain rfl := nilsl_inv hv
    exact ⟨by simp, none, 0, rfl, fun h => absurd h (by simp)⟩
  · rename_i p k c
    split at h
    · rename_i l0 hl
      obtain ⟨rfl, hby⟩ := nats_sound h
      obtain ⟨p', c', rfl, hor⟩ := slice_inv hv
      refine ⟨hby, some p', c', ?_⟩
      rcases hor with ⟨hp, _, _⟩ | ⟨rfl, _, _⟩
      · obtain ⟨l', g1, g2, g3⟩ := readN_sound hs hl hp
        obtain rfl := g1.nats
        have hk : k = l.length := by simpa using g2.symm
        subst hk
        refine ⟨rfl, fun h0 => ⟨p', rfl, ?_, fun i hi => g3 i _ (by simp [hi])⟩⟩
        obtain ⟨_, i, hi, rfl⟩ := hp
        exact hs.lt _ _ hi
      · have hq : l = [] := by simpa using readN_zero hl
        subst hq
        exact ⟨rfl, fun h0 => absurd h0 (by simp)⟩
    · cases h
  · cases h
theorem args3 {x y z : Value} {args : Array Value} (hl : LRel m [x, y, z] args.toList) : ∃ x' y' z', args = #[x', y', z'] ∧ VRel m x x' ∧ VRel m y y' ∧ VRel m z z' := by
  obtain ⟨a, b, c, e, h⟩ := l3 hl
  refine ⟨a, b, c, ?_, h⟩
  cases args with | mk l => simp only at e; rw [e]
end

/-! The table. -/
def tbNum : Nat := 12749536319551302420830055290731983042906869231766370170184255228463894984119587222357463453493748006886229547019502462691509165827871124329361635492757504
def tbOf (i : Nat) : Nat := Nat.land (Nat.shiftRight tbNum (Nat.mul 32 i)) 4294967295
theorem tbOf_lt (i : Nat) : tbOf i < 4294967296 := Nat.lt_of_le_of_lt Nat.and_le_right (by decide)
def tblL : List Value := [.int .u32 (.ofNat 0), .int .u32 (.ofNat 274646895), .int .u32 (.ofNat 549293790), .int .u32 (.ofNat 820201905), .int .u32 (.ofNat 1098587580), .int .u32 (.ofNat 1361435347), .int .u32 (.ofNat 1640403810), .int .u32 (.ofNat 1905808397), .int .u32 (.ofNat 2197175160), .int .u32 (.ofNat 2460548119), .int .u32 (.ofNat 2722870694), .int .u32 (.ofNat 2987750089), .int .u32 (.ofNat 3280807620), .int .u32 (.ofNat 3553878443), .int .u32 (.ofNat 3811616794), .int .u32 (.ofNat 4084100981)]
theorem tbl_get : ∀ i, i < 16 → tblL.toArray[i]? = some (.int .u32 (tbOf i : Nat)) := by
  intro i hi
  match i, hi with
  | 0, _ => rfl
  | 1, _ => rfl
  | 2, _ => rfl
  | 3, _ => rfl
  | 4, _ => rfl
  | 5, _ => rfl
  | 6, _ => rfl
  | 7, _ => rfl
  | 8, _ => rfl
  | 9, _ => rfl
  | 10, _ => rfl
  | 11, _ => rfl
  | 12, _ => rfl
  | 13, _ => rfl
  | 14, _ => rfl
  | 15, _ => rfl
  | k + 16, h => exact absurd h (by omega)

noncomputable def spOver : SpF
  | [.agg cs, .int .u32 (.ofNat c), v], s => cond (eqL (veq 2) cs.toList tblL && Nat.blt c 4294967296) (match rdNats s v with
    | some l => cond (Nat.ble l.length 1000000) (some (.int .u32 (.ofNat (cl tbOf c l)), s)) none
    | none => none) none
  | _, _ => none

theorem tbl_plain : closedV (.agg tblL.toArray) = true := by decide

theorem spOver_sp (hh : Hands ω) (C : Ctx) (hP : C.P = Tryz.prog) : SpOK ω C 112 spOver := by
  intro vs s v s' hv B X m w args hs hr hB
  have hC : COK ω (CE [] [] noCnv noRd) := ceOK hh (fun f hf => by cases hf) (fun f hf => by cases hf) noCnv_ok noRd
  unfold spOver at hv
  split at hv
  · rename_i cs c u
    cases hb : (eqL (veq 2) cs.toList tblL && Nat.blt c 4294967296) with
    | false => rw [hb] at hv; cases hv
    | true =>
      rw [hb] at hv
      simp only [cond_true] at hv
      rw [Bool.and_eq_true, Nat.blt_eq] at hb
      have ecs : cs = tblL.toArray := by
        have e := eqL_sound (veq_sound 2) hb.1
        cases cs; simp only at e; rw [e]
      split at hv
      · rename_i l hl
        cases hlen : Nat.ble l.length 1000000 with
        | false => rw [hlen] at hv; cases hv
        | true =>
          rw [hlen] at hv
          cases hv
          obtain ⟨x', y', z', rfl, g1, g2, g3⟩ := args3 hr
          subst ecs
          obtain rfl := closed_inv g1 tbl_plain
          obtain rfl := int_inv g2
          obtain ⟨hby, A, cp, rfl, hrd⟩ := rdNats_ok hs g3 hl
          refine calls_ok (by rw [hP]; exact hC.ok.call 112 _ rfl rfl _ w) fun n => ?_
          rw [hP]
          refine callsIn_wide.2 ((over_any tbOf tbOf_lt tblL.toArray tbl_get c hb.2 A cp l w (Nat.le_of_ble_eq_true hlen) hby hrd).mono ?_)
          rintro e w' ⟨rfl, hb'⟩
          exact ⟨_, rfl, m, Le.refl _, hs.below hb', .plain _ rfl, hb'.mono hB.le⟩
      · cases hv
  · cases hv

/-! Functions known by a closed run. -/
def isV (v : Value) (r : Option (Value × AS)) : Bool := match r with
  | some (u, _) => veq 10 u v
  | none => false
theorem isV_some {v : Value} {r : Option (Value × AS)} (h : isV v r = true) : ∃ s, r = some (v, s) := by
  unfold isV at h
  split at h
  · rename_i u s; exact ⟨s, by rw [veq_sound _ _ _ h]⟩
  · cases h
theorem knownV_of_run (hh : Hands ω) {fuel : Nat} {g : FuncId} {v0 : Value} (hcl : closedV v0 = true) (hsp : spT g = none) (hr : isV v0 ((ev (CE [] [] noCnv noRd) fuel).f g [] ⟨0, .leaf⟩) = true) :
    ∀ C : Ctx, C.P = Tryz.prog → GlobOK C → SpOK ω C g (spKnown v0) := by
  intro C hP hG vs s v s' hv B X m w args hs hl hB
  unfold spKnown at hv
  split at hv
  · cases hv
    have ha : args = #[] := by
      have := hl.1
      cases args with | mk l => cases l with | nil => rfl | cons _ _ => simp at this
    subst ha
    obtain ⟨s1, h1⟩ := isV_some hr
    have hgl : ∀ g v, globT g = some v → g < w.heap.size ∧ ∃ v', w.cell? ⟨g, 0, none⟩ = some v' ∧ ∀ m : M ω, VRel m v v' := fun g v h => by
      have := hB.gl g v (by rw [hG.1]; exact h)
      exact ⟨Nat.lt_of_lt_of_le this.1 hB.le, this.2⟩
    have hC : COK ω (CE [] [] noCnv noRd) := ceOK hh (fun f hf => by cases hf) (fun f hf => by cases hf) noCnv_ok noRd
    have key := ((sound hC fuel).2.2.2.1 g [] _ v0 s1 h1 w.heap.size _ _ w #[] (sr_empty w) (LRel.nil _) ⟨Nat.le_refl _, hgl, fun k h => (by cases h), fun g cs h => by
      have := hB.iv g cs (hG.2 g cs h)
      exact ⟨Nat.lt_of_lt_of_le this.1 hB.le, this.2⟩⟩).2 hsp
    refine calls_ok (by rw [hP]; exact key.1 _ _) fun n => ?_
    rw [hP]
    refine (key.2 n).mono ?_
    rintro e w' ⟨v', rfl, m', _, _, hr', hb'⟩
    obtain rfl := closed_inv hr' hcl
    exact ⟨_, rfl, m, Le.refl _, hs.below hb', closed_refl hcl, hb'.mono hB.le⟩
  · cases hv

set_option maxRecDepth 1000000 in
theorem table_run : isV (.agg tblL.toArray) ((ev (CE [] [] noCnv noRd) 1000).f 111 [] ⟨0, .leaf⟩) = true := by kernel_rfl

noncomputable def crcL : List (FuncId × SpF) := [(112, spOver), (111, spKnown (.agg tblL.toArray))]
theorem crcL_ok (hh : Hands ω) : ∀ p ∈ crcL, ∀ C : Ctx, C.P = Tryz.prog → GlobOK C → SpOK ω C p.1 p.2 := by
  intro p hp C hP hG
  simp only [crcL, List.mem_cons, List.not_mem_nil, or_false] at hp
  rcases hp with rfl | rfl
  · exact spOver_sp hh C hP
  · exact knownV_of_run hh tbl_plain rfl table_run C hP hG
end Go.Proofs.YtagieomloclohaaGreatDoor.Ev
