/- number4, node.read at free pages: walked. node.read at pages of a chain: walked. (Written by mkGc.py.) node.Get, given what node.read does at the page: walked. node.Get at free pages and pages of a chain. A map of pages by their numbers: laws on its operations, for the walk. A transaction in memory. The transaction's lay: walked. The transaction's isPage; errors: walked. The transaction's bytes and node, at pages that were put: walked. strconv.FormatUint at base 10: the decimal numeral of every number. The transaction's digits, node, reuse: walked. The transaction's reuse, at a free page: walked. The transaction's Alloc, Put, Free, where they succeed: walked. pool.Fresh: walked. errors.Is at an error of the pool's: a run of the interpreter. What comes in: numbers; what the condition gives. Functions that a contract tells, as known functions of the interpreter; a page's number as a text. scowlaw09.small of one deed without pages. The transaction's bytes: no such page; the head; Page. -/
import Derived.Test.YtenfkghoolegfaaGreatDoorUd
import Derived.Test.YtenfkghoolegfaaGreatDoorUb
import Derived.Test.YtenfkghoolegfaaGreatDoorUc
import Derived.Test.YtenfkghoolegfaaGreatDoorUa
import Derived.RangeFuncWrites
import Derived.Test.YtenfkghoolegfaaGreatDoorShelf
import Derived.Lib.Walk
import Derived.Lib.ItoaMem
import Derived.Lib.AppendIntMem
import Derived.WalkKit
import Derived.BigCall
import Derived.BigGuard
import Derived.ProofKit
import Derived.OpenShut
import Derived.ChangeOld
import Derived.Deep.Slices
import Derived.ChangeSame
import Derived.Test.YtenfkghoolegfaaGreatDoorProg
import Derived.BigFrame
import Derived.Lib.Hide
set_option linter.unusedVariables false
namespace Go.Proofs.YtenfkghoolegfaaGreatDoor
open Go.RowKit
theorem reads_sub {B : Nat} {w : World} {a : Addr} {b : List UInt8} (h : Reads w B 1 (some a) b.length (bl b)) {m n : Nat} (hn : m + n ≤ b.length) : Reads w B 1 (some (a.add m)) n (bl ((b.drop m).take n)) := by
  have h1 := reads_drop (m := m) (n := b.length - m) h (by omega)
  have h2 : Reads w B 1 (some (a.add m)) (b.drop m).length (bl (b.drop m)) := by rw [List.length_drop]; exact h1
  exact reads_take h2 (by rw [List.length_drop]; omega)
theorem results_cell_tmp {P : Program} {fn : Func} {p q : Tmp} {ty : TypeId} (h : fn.results = #[.cell p ty, .tmp q]) (tmps : Array Value) (w : World) (g : Nat) (t : TypeId) (cs : Array Value) (fr : Nat × Nat) (d : TypeDesc)
    (hp : tmps.getD p undef = .pointer (some ⟨g, 0, none⟩)) (hg : w.heap[g]? = some (.cells cs t fr))
    (hu : P.underlying ty = some d) (hd : (match d with | .struct _ | .array _ _ => true | _ => false) = true) (hi : (P.info? ty).map (·.size) = some cs.size) :
    (results fn tmps).run P w = .ok (.tuple #[.agg cs, tmps.getD q undef]) w := by
  have hp' : tmps[p]?.getD undef = .pointer (some ⟨g, 0, none⟩) := by simpa using hp
  simp [results, h, hp', asAddr, run_loadVar_row w g t ty cs fr d hg hu hd hi]
theorem step_storeRow {P : Program} {ops : Array Oper} {o : Oper} {a : Act} {w : World} {K : Act → World → Prop} {Q : Exit → Act → World → Prop} {E : Prop} (hgd : o.guard = none) (ty : TypeId) (x y : Operand) (ho : o.op = .store ty x y)
    (g : Nat) (cells : Array Value) (hx : a.eval x = .pointer (some ⟨g, 0, none⟩)) (hy : a.eval y = .agg cells)
    (t : TypeId) (old : Array Value) (hg : w.heap[g]? = some (.cells old t (0, 0))) (hi : (P.info? ty).map (·.size) = some cells.size)
    (hold : old.size = cells.size) (h1 : cells.all (·.oneCell') = true)
    (h : K (a.put o.dst undef) (w.setRow g cells)) : if Region.wanted o (yielded ops a.tmps) = true then Oper.wp P o a w K Q else E := by
  have hw : Region.wanted o (yielded ops a.tmps) = true := by simp [Region.wanted, hgd]
  rw [if_pos hw]
  exact wp_store_row ty x y ho g cells hx hy t old hg hi hold h1 h
set_option maxHeartbeats 1000000 in
set_option maxRecDepth 100000 in
theorem number4_any {B : Nat} (a : Addr) (b : List UInt8) (at' : Nat) (w : World) (hr : Reads w B 1 (some a) b.length (bl b)) (hl : b.length = 243) (ha : at' + 4 ≤ 243) :
    Calls Tryz.prog 114 #[.slice (some a) 243 243, .int .i64 at'] w fun e w' => e = .returned (.int .u32 (numN ((b.drop at').take 4) : Nat)) ∧ w = w' := by
  have h4 : ((b.drop at').take 4).length = 4 := by rw [List.length_take, List.length_drop]; omega
  have hs := reads_sub hr (m := at') (n := 4) (by omega)
  have hs' : Reads w B 1 (some (a.add at')) ((b.drop at').take 4).length (bl ((b.drop at').take 4)) := by rw [h4]; exact hs
  have hN := fun c => Number_any (some (a.add at')) c ((b.drop at').take 4) w hs' (by omega)
  have hlt := numN_lt ((b.drop at').take 4)
  rw [h4] at hN hlt
  obtain ⟨m, HM⟩ : ∃ m, Hid (numN ((b.drop at').take 4) = m) := ⟨_, Lib.hid rfl⟩
  rw [HM.out] at hN hlt ⊢
  have hlt : m < 4294967296 := hlt
  have a1 : IntKind.i64.wrap ((at' : Int) + 4) = (at' : Int) + 4 := by rw [IntKind.wrap_i64]; omega
  have a2 : (0 : Int) ≤ (at' : Int) := by omega
  have a3 : (at' : Int) ≤ (at' : Int) + 4 := by omega
  have a4 : (at' : Int) + 4 ≤ 243 := by omega
  have a5 : ((at' : Int) + 4).toNat = at' + 4 := by omega
  have a6 : IntKind.u32.wrap (m : Int) = (m : Int) := by rw [IntKind.wrap_u32]; omega
  have a7 : ¬ (243 = at') := by omega
  clear hs hs' hr
  go_enter Tryz.func114, Tryz.ntmps114
  go_wp2_with (go_at_call 113; refine (hN _).mono ?_; rintro e w2 ⟨rfl, rfl⟩)
  go_ret
  exact ⟨rfl, rfl⟩
def flatCs (kind : Int) (lsn next : Nat) (da : Option Addr) (dl dc : Nat) (root pages free entries : Nat) : Array Value := #[.int .i64 kind, .int .u64 (lsn : Nat), .slice none 0 0, .int .u32 (next : Nat), .slice da dl dc, .int .u32 (root : Nat), .int .u32 (pages : Nat), .int .u32 (free : Nat), .int .u64 (entries : Nat)]
set_option maxHeartbeats 2000000 in
set_option maxRecDepth 1000000 in
theorem read_free {B : Nat} (lsn : Nat) (a : Addr) (b : List UInt8) (w : World) (hB : B ≤ w.heap.size) (hr : Reads w B 1 (some a) b.length (bl b)) (hl : b.length = 243) :
    Calls Tryz.prog 91 #[.agg #[.int .i64 5, .int .u64 (lsn : Nat), .slice (some a) 243 243]] w fun e w' =>
      e = .returned (.tuple #[.agg (flatCs 5 lsn (numN (b.take 4)) none 0 0 0 0 0 0), .bool (decide (padB (fixN 4 (numN (b.take 4))) = b))]) ∧ Below w.heap.size w w' := by
  have h4 : (b.take 4).length = 4 := by rw [List.length_take]; omega
  have hlt := numN_lt (b.take 4)
  rw [h4] at hlt
  have hlt : numN (b.take 4) < 4294967296 := hlt
  have hN : Hid (∀ W, Below w.heap.size w W → _) := Lib.hid fun W hW => number4_any a b 0 W (hr.below (hW.mono hB)) hl (by omega)
  simp only [List.drop_zero] at hN
  obtain ⟨m, HM⟩ : ∃ m, Hid (numN (b.take 4) = m) := ⟨_, Lib.hid rfl⟩
  rw [HM.out] at hN hlt ⊢
  have hwa : Below w.heap.size w (w.alloc (.cells #[.int .i64 5, .int .u64 (lsn : Nat), .slice (some a) 243 243] 161)) := (Below.refl _ w).alloc (Nat.le_refl _) _
  have hwb : ∀ o, Below w.heap.size w ((w.alloc (.cells #[.int .i64 5, .int .u64 (lsn : Nat), .slice (some a) 243 243] 161)).alloc o) := fun o => hwa.alloc hwa.size o
  obtain ⟨w1, hw1⟩ : ∃ w1, w1 = (w.alloc (.cells #[.int .i64 5, .int .u64 (lsn : Nat), .slice (some a) 243 243] 161)).alloc (.cells #[.int .i64 5, .int .u64 (lsn : Nat), .slice none 0 0, .int .u32 (m : Nat), .slice none 0 0, .int .u32 0, .int .u32 0, .int .u32 0, .int .u64 0] 52) := ⟨_, rfl⟩
  have hb1 : Below w.heap.size w w1 := by rw [hw1]; exact hwb _
  have hN1 : Blk w1 (w.heap.size + 1) 52 #[.int .i64 5, .int .u64 (lsn : Nat), .slice none 0 0, .int .u32 (m : Nat), .slice none 0 0, .int .u32 0, .int .u32 0, .int .u32 0, .int .u64 0] := by rw [hw1]; exact blk_newH _ _ _ (by simp)
  have kS : Hid (∀ W, Below w1.heap.size w1 W → (W.cell? ⟨w.heap.size + 1, 0, none⟩ = some (.int .i64 5) ∧ W.cell? ⟨w.heap.size + 1, 1, none⟩ = some (.int .u64 (lsn : Nat)) ∧ W.cell? ⟨w.heap.size + 1, 2, none⟩ = some (.slice none 0 0) ∧ W.cell? ⟨w.heap.size + 1, 3, none⟩ = some (.int .u32 (m : Nat)) ∧ W.cell? ⟨w.heap.size + 1, 4, none⟩ = some (.slice none 0 0) ∧ W.cell? ⟨w.heap.size + 1, 5, none⟩ = some (.int .u32 0) ∧ W.cell? ⟨w.heap.size + 1, 6, none⟩ = some (.int .u32 0) ∧ W.cell? ⟨w.heap.size + 1, 7, none⟩ = some (.int .u32 0) ∧ W.cell? ⟨w.heap.size + 1, 8, none⟩ = some (.int .u64 0))) := Lib.hid fun W hW => ⟨(hN1.below hW hN1.lt).cell 0, (hN1.below hW hN1.lt).cell 1, (hN1.below hW hN1.lt).cell 2, (hN1.below hW hN1.lt).cell 3, (hN1.below hW hN1.lt).cell 4, (hN1.below hW hN1.lt).cell 5, (hN1.below hW hN1.lt).cell 6, (hN1.below hW hN1.lt).cell 7, (hN1.below hW hN1.lt).cell 8⟩
  have hBd := body_free ⟨5, lsn, none, 0, [], m, none, 0, [], 0, 0, 0, 0⟩ w1.drew rfl hlt
  have hbn : bodyN (NX.n ⟨5, lsn, none, 0, [], m, none, 0, [], 0, 0, 0, 0⟩) = padB (fixN 4 m) := rfl
  rw [hbn] at hBd
  unfold NX.val nodeV at hBd
  dsimp only [List.length_nil] at hBd
  simp only [Int.natCast_zero] at hBd
  have hpl : (padB (fixN 4 m)).length = 243 := by unfold padB; rw [List.length_append, List.length_replicate, fixN_len]
  obtain ⟨q, HQ⟩ : ∃ q, Hid (padB (fixN 4 m) = q) := ⟨_, Lib.hid rfl⟩
  rw [HQ.out] at hBd hpl ⊢
  have hEq : Hid (∀ (W : World) (g : Nat), Below w.heap.size w W → Blk W g 5 (bl q).toArray → _) := Lib.hid fun W g hW hG => Equal_any 243 243 W (reads_of_blk hG rfl) (hr.below (hW.mono hB))
  rw [hl, hpl] at hEq
  have HW1 := Lib.hid hw1
  have HN1 := Lib.hid hN1
  have HWB := Lib.hid hwb
  clear hw1 hN1 hwb hwa
  go_enter Tryz.func91, Tryz.ntmps91
  go_wp2_with (go_at_call 114; refine (hN.out _ (HWB.out _)).mono ?_; rintro e w2 ⟨rfl, h2⟩; subst h2)
  rw [← HW1.out]
  have hbd : Below w1.heap.size w1 w1.drew := (Below.refl _ w1).drew
  refine regionE 5 (fun W0 => W0.cell? ⟨w.heap.size + 1, 0, none⟩ = some (.int .i64 5) ∧ W0.cell? ⟨w.heap.size + 1, 1, none⟩ = some (.int .u64 (lsn : Nat)) ∧ W0.cell? ⟨w.heap.size + 1, 2, none⟩ = some (.slice none 0 0) ∧ W0.cell? ⟨w.heap.size + 1, 3, none⟩ = some (.int .u32 (m : Nat)) ∧ W0.cell? ⟨w.heap.size + 1, 4, none⟩ = some (.slice none 0 0) ∧ W0.cell? ⟨w.heap.size + 1, 5, none⟩ = some (.int .u32 0) ∧ W0.cell? ⟨w.heap.size + 1, 6, none⟩ = some (.int .u32 0) ∧ W0.cell? ⟨w.heap.size + 1, 7, none⟩ = some (.int .u32 0) ∧ W0.cell? ⟨w.heap.size + 1, 8, none⟩ = some (.int .u64 0)) (by kernel_rfl) (by kernel_rfl) (by kernel_rfl) (by kernel_rfl) (by kernel_rfl) (kS.out _ hbd) (fun hHeld hTl => ?_)
  refine takeE 0 (v := ?_) hTl rfl (by decide) (by kernel_rfl) (by kernel_rfl) (fun _ _ _ h => h) hHeld (Or.inl ⟨by rfl, ?_⟩) (fun hTl => ?_)
  rotate_left
  · intro w hSw; (try dsimp only at hSw); go_simp
    all_goals with_reducible rfl
  try simp only [Act.put, List.setIfInBounds_toArray, List.set_cons_zero, List.set_cons_succ]
  refine takeE 1 (v := ?_) hTl rfl (by decide) (by kernel_rfl) (by kernel_rfl) (fun _ _ _ h => h) hHeld (Or.inl ⟨by rfl, ?_⟩) (fun hTl => ?_)
  rotate_left
  · intro w hSw; (try dsimp only at hSw); go_simp
    all_goals with_reducible rfl
  try simp only [Act.put, List.setIfInBounds_toArray, List.set_cons_zero, List.set_cons_succ]
  refine takeE 3 (v := ?_) hTl rfl (by decide) (by kernel_rfl) (by kernel_rfl) (fun _ _ _ h => h) hHeld (Or.inl ⟨by rfl, ?_⟩) (fun hTl => ?_)
  rotate_left
  · intro w hSw; (try dsimp only at hSw); go_simp
    all_goals with_reducible rfl
  try simp only [Act.put, List.setIfInBounds_toArray, List.set_cons_zero, List.set_cons_succ]
  clear hTl
  refine oneE 2 rfl (by kernel_rfl) (fun K hK => ?_)
  refine step_callC rfl 106 _ (by go_simp) hBd ?_
  rintro e w3 ⟨g, e3, hg, hG, hb3⟩; subst e3; refine ⟨_, rfl, ?_⟩; have hb3' := hbd.trans (hb3.mono hbd.size)
  refine hK.out _ _ (fun _ => kS.out _ hb3') ?_
  clear hK K
  try simp only [Act.put, List.setIfInBounds_toArray, List.set_cons_zero, List.set_cons_succ]
  have hE3 := hEq.out _ _ (hb1.trans (hb3'.mono hb1.size)) hG
  refine oneE 4 rfl (by kernel_rfl) (fun K hK => ?_)
  refine step_callC rfl 116 _ (by go_simp) hE3 ?_
  rintro e w4 ⟨e4, h4⟩; subst e4; subst h4; refine ⟨_, rfl, ?_⟩
  refine hK.out _ _ (fun _ => kS.out _ hb3') ?_
  clear hK K
  try simp only [Act.put, List.setIfInBounds_toArray, List.set_cons_zero, List.set_cons_succ]
  have hN3 := HN1.out.below hb3' HN1.out.lt
  refine oneE 5 rfl (by kernel_rfl) (fun K hK => ?_)
  refine step_storeRow rfl 52 (.tmp 2) (.tmp 69) rfl (w.heap.size + 1) #[.int .i64 5, .int .u64 (lsn : Nat), .slice none 0 0, .int .u32 (m : Nat), .slice none 0 0, .int .u32 0, .int .u32 0, .int .u32 0, .int .u64 0] rfl rfl 52 _ hN3 (by kernel_rfl) rfl (by simp [Value.oneCell']) ?_
  skip
  refine hK.out _ _ (fun h => absurd h (by decide)) ?_
  clear hK K
  try simp only [Act.put, List.setIfInBounds_toArray, List.set_cons_zero, List.set_cons_succ]
  refine oneE 6 rfl (by kernel_rfl) (fun K hK => ?_)
  go_simp
  refine hK.out _ _ (fun h => absurd h (by decide)) ?_
  clear hK K
  try simp only [Act.put, List.setIfInBounds_toArray, List.set_cons_zero, List.set_cons_succ]
  refine doneE (by kernel_rfl) ?_ _
  go_wp2
  refine bodyPost_ret (results_cell_tmp rfl _ _ (w.heap.size + 1) 52 #[.int .i64 5, .int .u64 (lsn : Nat), .slice none 0 0, .int .u32 (m : Nat), .slice none 0 0, .int .u32 0, .int .u32 0, .int .u32 0, .int .u64 0] (0, 0) _ rfl (setRow_heap _ _ _ _ _ _ hN3) Tryz.underlying52 rfl (by kernel_rfl)) rfl ?_
  refine ⟨rfl, ?_⟩
  have hb4 := hb1.trans (hb3'.mono hb1.size)
  exact hb4.trans ((fr_setRow _ _ _).below (B := w.heap.size) hb4.size (fun k hk => by omega))
end Go.Proofs.YtenfkghoolegfaaGreatDoor
set_option linter.unusedVariables false
namespace Go.Proofs.YtenfkghoolegfaaGreatDoor
open Go.RowKit
theorem own_ge {w : World} {base e s n c : Nat} {A : Option Addr} {xs : List Value} (h : w.ownsRow base e s (.slice A n c) n xs) : ∀ ad, A = some ad → base ≤ ad.block := by
  rintro ad rfl
  rcases h.2 with ⟨h0, _⟩ | ⟨g, cap, cur, e1, h2, _⟩
  · cases h0
  · simp only [Value.slice.injEq, Option.some.injEq] at e1
    rw [e1.1]
    exact h2
theorem reads_set {w : World} {B size n g o : Nat} {A : Option Addr} {xs : List Value} {u : Value} (h : Reads w B size A n xs) (hA : ∀ ad, A = some ad → ad.block ≠ g) : Reads (w.setCell ⟨g, o, none⟩ u) B size A n xs :=
  ⟨h.1, fun h0 => by
    obtain ⟨ad, e, hb, hc⟩ := h.2 h0
    refine ⟨ad, e, hb, fun j x hx => ?_⟩
    rw [← hc j x hx]
    exact World.cell?_of_block (w := w) (Below.heap_setCell w ⟨g, o, none⟩ u _ (by rw [block_of_add]; exact hA ad e))⟩
set_option maxHeartbeats 4000000 in
set_option maxRecDepth 1000000 in
theorem read_over {B : Nat} (lsn : Nat) (a : Addr) (b : List UInt8) (w : World) (hB : B ≤ w.heap.size) (hr : Reads w B 1 (some a) b.length (bl b)) (hl : b.length = 243) :
    Calls Tryz.prog 91 #[.agg #[.int .i64 4, .int .u64 (lsn : Nat), .slice (some a) 243 243]] w fun e w' => ∃ A c,
      e = .returned (.tuple #[.agg (flatCs 4 lsn (numN (b.take 4)) A ((b.drop 5).take (min (5 + (b.getD 4 0).toNat) 243 - 5)).length c 0 0 0 0), .bool (decide (padB (fixN 4 (numN (b.take 4)) ++ ([UInt8.ofNat ((b.drop 5).take (min (5 + (b.getD 4 0).toNat) 243 - 5)).length] ++ (b.drop 5).take (min (5 + (b.getD 4 0).toNat) 243 - 5))) = b))]) ∧
      (∀ ad, A = some ad → w.heap.size ≤ ad.block) ∧ Reads w' w'.heap.size 1 A ((b.drop 5).take (min (5 + (b.getD 4 0).toNat) 243 - 5)).length (bl ((b.drop 5).take (min (5 + (b.getD 4 0).toNat) 243 - 5))) ∧ Below w.heap.size w w' := by
  have h4 : (b.take 4).length = 4 := by rw [List.length_take]; omega
  have hlt := numN_lt (b.take 4)
  rw [h4] at hlt
  have hlt : numN (b.take 4) < 4294967296 := hlt
  have hN : Hid (∀ W, Below w.heap.size w W → _) := Lib.hid fun W hW => number4_any a b 0 W (hr.below (hW.mono hB)) hl (by omega)
  simp only [List.drop_zero] at hN
  obtain ⟨m, HM⟩ : ∃ m, Hid (numN (b.take 4) = m) := ⟨_, Lib.hid rfl⟩
  rw [HM.out] at hN hlt ⊢
  have hv : (b.getD 4 0).toNat < 256 := (b.getD 4 0).toNat_lt
  have hV : Hid (∀ W, Below w.heap.size w W → W.cell? ⟨a.block, a.off + 4, none⟩ = some (.int .u8 ((b.getD 4 0).toNat : Nat))) := Lib.hid fun W hW => reads_cell (hr.below (hW.mono hB)) 4 (by omega)
  obtain ⟨v, HV⟩ : ∃ v, Hid ((b.getD 4 0).toNat = v) := ⟨_, Lib.hid rfl⟩
  rw [HV.out] at hV hv ⊢
  obtain ⟨dl, HD⟩ : ∃ z, Hid (min (5 + v) 243 - 5 = z) := ⟨_, Lib.hid rfl⟩
  rw [HD.out]
  have hd : dl ≤ 238 := by have := HD.out; omega
  have hld : ((b.drop 5).take dl).length = dl := by rw [List.length_take, List.length_drop]; omega
  have hCl : Hid (∀ W, Below w.heap.size w W → _) := Lib.hid fun W hW => BClone_some (n := dl) (a.add 5) 238 (bl ((b.drop 5).take dl)) (bl_one _) W (reads_sub (hr.below (hW.mono hB)) (by omega)) (Nat.le_trans hB hW.size) (by omega)
  rw [show a.add 5 = ⟨a.block, a.off + 5, none⟩ from rfl] at hCl
  obtain ⟨dd, HDD⟩ : ∃ v, Hid ((b.drop 5).take dl = v) := ⟨_, Lib.hid rfl⟩
  rw [HDD.out] at hCl hld ⊢
  rw [hld]
  have hpl : (padB (fixN 4 m ++ ([UInt8.ofNat dl] ++ dd))).length = 243 := by unfold padB; rw [List.length_append, List.length_replicate, List.length_append, fixN_len, List.length_append, hld]; simp; omega
  obtain ⟨q, HQ⟩ : ∃ q, Hid (padB (fixN 4 m ++ ([UInt8.ofNat dl] ++ dd)) = q) := ⟨_, Lib.hid rfl⟩
  rw [HQ.out] at hpl ⊢
  have hx1 : ¬ (v : Int) + 5 < 0 := by omega
  have hmin : (if (243 : Int) < 5 + (v : Int) then (243 : Int) else 5 + (v : Int)) = (dl : Int) + 5 := by have := HD.out; split <;> omega
  have hmin2 : (if 5 + (v : Int) < (243 : Int) then 5 + (v : Int) else (243 : Int)) = (dl : Int) + 5 := by have := HD.out; split <;> omega
  have hmin3 : (if 5 + (v : Int) ≤ (243 : Int) then 5 + (v : Int) else (243 : Int)) = (dl : Int) + 5 := by have := HD.out; split <;> omega
  have hmin4 : min (5 + (v : Int)) 243 = (dl : Int) + 5 := by have := HD.out; omega
  have a1 : IntKind.i64.wrap (v : Int) = (v : Int) := by rw [IntKind.wrap_i64]; omega
  have a2 : IntKind.i64.wrap (5 + (v : Int)) = 5 + (v : Int) := by rw [IntKind.wrap_i64]; omega
  have a3 : (5 : Int) ≤ (dl : Int) + 5 := by omega
  have a4 : (dl : Int) + 5 ≤ 243 := by omega
  have a5 : ((dl : Int) + 5).toNat = dl + 5 := by omega
  have hwa : Below w.heap.size w (w.alloc (.cells #[.int .i64 4, .int .u64 (lsn : Nat), .slice (some a) 243 243] 161)) := (Below.refl _ w).alloc (Nat.le_refl _) _
  have hwb : ∀ o, Below w.heap.size w ((w.alloc (.cells #[.int .i64 4, .int .u64 (lsn : Nat), .slice (some a) 243 243] 161)).alloc o) := fun o => hwa.alloc hwa.size o
  obtain ⟨w1, hw1⟩ : ∃ w1, w1 = (w.alloc (.cells #[.int .i64 4, .int .u64 (lsn : Nat), .slice (some a) 243 243] 161)).alloc (.cells #[.int .i64 4, .int .u64 (lsn : Nat), .slice none 0 0, .int .u32 (m : Nat), .slice none 0 0, .int .u32 0, .int .u32 0, .int .u32 0, .int .u64 0] 52) := ⟨_, rfl⟩
  have hb1 : Below w.heap.size w w1 := by rw [hw1]; exact hwb _
  have hN1 : Blk w1 (w.heap.size + 1) 52 #[.int .i64 4, .int .u64 (lsn : Nat), .slice none 0 0, .int .u32 (m : Nat), .slice none 0 0, .int .u32 0, .int .u32 0, .int .u32 0, .int .u64 0] := by rw [hw1]; exact blk_newH _ _ _ (by simp)
  have hV1 := hV.out _ hb1
  have hC1 := hCl.out _ hb1
  have HW1 := Lib.hid hw1
  have HN1 := Lib.hid hN1
  have HWB := Lib.hid hwb
  clear hw1 hN1 hwb hwa hV hCl
  go_enter Tryz.func91, Tryz.ntmps91
  go_wp2_with (first
    | (go_at_call 114; refine (hN.out _ (HWB.out _)).mono ?_; rintro e w2 ⟨rfl, h2⟩; subst h2)
    | (rw [← HW1.out])
    | (go_at_call 68; refine hC1.mono ?_; rintro e w2 ⟨A2, c2, rfl, ho2, hb2⟩; have hN2 := HN1.out.below hb2 HN1.out.lt; have k4 : w2.cell? ⟨w.heap.size + 1, 4, none⟩ = some (.slice none 0 0) := hN2.cell 4; have k4f := hN2.frozen 4))
  have hN3 := hN2.set_ 4 (.slice A2 dl c2)
  have hb3 : Below w.heap.size w (w2.setCell ⟨w.heap.size + 1, 4, none⟩ (.slice A2 dl c2)) := (hb1.trans (hb2.mono hb1.size)).setCell (p := ⟨w.heap.size + 1, 4, none⟩) (Nat.le_succ _) _
  have hA2 : ∀ ad, A2 = some ad → w1.heap.size ≤ ad.block := own_ge ho2
  have hlw1 : w.heap.size + 1 < w1.heap.size := HN1.out.lt
  have hrd2 := Reads.of_own ho2
  have hrd3 : Reads (w2.setCell ⟨w.heap.size + 1, 4, none⟩ (.slice A2 dl c2)) w2.heap.size 1 A2 dl (bl dd) := reads_set hrd2 (fun ad had => by have := hA2 ad had; show ad.block ≠ w.heap.size + 1; omega)
  have hs3 : (w2.setCell ⟨w.heap.size + 1, 4, none⟩ (.slice A2 dl c2)).heap.size = w2.heap.size := by simp [World.setCell]
  rw [← hs3] at hrd3
  obtain ⟨w3, hw3⟩ : ∃ w3, w3 = w2.setCell ⟨w.heap.size + 1, 4, none⟩ (.slice A2 dl c2) := ⟨_, rfl⟩
  rw [← hw3] at hN3 hb3 hrd3 ⊢
  clear hw3 hs3 hrd2 ho2 hb2 hN2 k4 k4f hV1 hC1
  have hN3 : Blk w3 (w.heap.size + 1) 52 #[.int .i64 4, .int .u64 (lsn : Nat), .slice none 0 0, .int .u32 (m : Nat), .slice A2 dl c2, .int .u32 0, .int .u32 0, .int .u32 0, .int .u64 0] := hN3
  have hrd3' : Reads w3 w3.heap.size 1 A2 dd.length (bl dd) := by rw [hld]; exact hrd3
  have hBd := body_over (B := w3.heap.size) ⟨4, lsn, none, 0, [], m, A2, c2, dd, 0, 0, 0, 0⟩ w3.drew rfl hlt (Nat.le_refl _) hrd3' (by show dd.length ≤ 238; omega)
  have hbn : bodyN (NX.n ⟨4, lsn, none, 0, [], m, A2, c2, dd, 0, 0, 0, 0⟩) = padB (fixN 4 m ++ ([UInt8.ofNat dd.length] ++ dd)) := rfl
  rw [hbn] at hBd
  unfold NX.val nodeV at hBd
  dsimp only [List.length_nil] at hBd
  simp only [Int.natCast_zero, hld] at hBd
  rw [HQ.out] at hBd
  have hEq : Hid (∀ (W : World) (g : Nat), Below w.heap.size w W → Blk W g 5 (bl q).toArray → _) := Lib.hid fun W g hW hG => Equal_any 243 243 W (reads_of_blk hG rfl) (hr.below (hW.mono hB))
  rw [hl, hpl] at hEq
  have HRD := Lib.hid hrd3
  clear hrd3 hrd3'
  have kS : Hid (∀ W, Below w3.heap.size w3 W → (W.cell? ⟨w.heap.size + 1, 0, none⟩ = some (.int .i64 4) ∧ W.cell? ⟨w.heap.size + 1, 1, none⟩ = some (.int .u64 (lsn : Nat)) ∧ W.cell? ⟨w.heap.size + 1, 2, none⟩ = some (.slice none 0 0) ∧ W.cell? ⟨w.heap.size + 1, 3, none⟩ = some (.int .u32 (m : Nat)) ∧ W.cell? ⟨w.heap.size + 1, 4, none⟩ = some (.slice A2 dl c2) ∧ W.cell? ⟨w.heap.size + 1, 5, none⟩ = some (.int .u32 0) ∧ W.cell? ⟨w.heap.size + 1, 6, none⟩ = some (.int .u32 0) ∧ W.cell? ⟨w.heap.size + 1, 7, none⟩ = some (.int .u32 0) ∧ W.cell? ⟨w.heap.size + 1, 8, none⟩ = some (.int .u64 0))) := Lib.hid fun W hW => ⟨(hN3.below hW hN3.lt).cell 0, (hN3.below hW hN3.lt).cell 1, (hN3.below hW hN3.lt).cell 2, (hN3.below hW hN3.lt).cell 3, (hN3.below hW hN3.lt).cell 4, (hN3.below hW hN3.lt).cell 5, (hN3.below hW hN3.lt).cell 6, (hN3.below hW hN3.lt).cell 7, (hN3.below hW hN3.lt).cell 8⟩
  have HN3 := Lib.hid hN3
  clear hN3
  go_wp2_with fail
  have hbd : Below w3.heap.size w3 w3.drew := (Below.refl _ w3).drew
  refine regionE 5 (fun W0 => W0.cell? ⟨w.heap.size + 1, 0, none⟩ = some (.int .i64 4) ∧ W0.cell? ⟨w.heap.size + 1, 1, none⟩ = some (.int .u64 (lsn : Nat)) ∧ W0.cell? ⟨w.heap.size + 1, 2, none⟩ = some (.slice none 0 0) ∧ W0.cell? ⟨w.heap.size + 1, 3, none⟩ = some (.int .u32 (m : Nat)) ∧ W0.cell? ⟨w.heap.size + 1, 4, none⟩ = some (.slice A2 dl c2) ∧ W0.cell? ⟨w.heap.size + 1, 5, none⟩ = some (.int .u32 0) ∧ W0.cell? ⟨w.heap.size + 1, 6, none⟩ = some (.int .u32 0) ∧ W0.cell? ⟨w.heap.size + 1, 7, none⟩ = some (.int .u32 0) ∧ W0.cell? ⟨w.heap.size + 1, 8, none⟩ = some (.int .u64 0)) (by kernel_rfl) (by kernel_rfl) (by kernel_rfl) (by kernel_rfl) (by kernel_rfl) (kS.out _ hbd) (fun hHeld hTl => ?_)
  refine takeE 0 (v := ?_) hTl rfl (by decide) (by kernel_rfl) (by kernel_rfl) (fun _ _ _ h => h) hHeld (Or.inl ⟨by rfl, ?_⟩) (fun hTl => ?_)
  rotate_left
  · intro w hSw; (try dsimp only at hSw); go_simp
    all_goals with_reducible rfl
  try simp only [Act.put, List.setIfInBounds_toArray, List.set_cons_zero, List.set_cons_succ]
  refine takeE 1 (v := ?_) hTl rfl (by decide) (by kernel_rfl) (by kernel_rfl) (fun _ _ _ h => h) hHeld (Or.inl ⟨by rfl, ?_⟩) (fun hTl => ?_)
  rotate_left
  · intro w hSw; (try dsimp only at hSw); go_simp
    all_goals with_reducible rfl
  try simp only [Act.put, List.setIfInBounds_toArray, List.set_cons_zero, List.set_cons_succ]
  refine takeE 3 (v := ?_) hTl rfl (by decide) (by kernel_rfl) (by kernel_rfl) (fun _ _ _ h => h) hHeld (Or.inl ⟨by rfl, ?_⟩) (fun hTl => ?_)
  rotate_left
  · intro w hSw; (try dsimp only at hSw); go_simp
    all_goals with_reducible rfl
  try simp only [Act.put, List.setIfInBounds_toArray, List.set_cons_zero, List.set_cons_succ]
  clear hTl
  refine oneE 2 rfl (by kernel_rfl) (fun K hK => ?_)
  refine step_callC rfl 106 _ (by go_simp) hBd ?_
  rintro e w4 ⟨g, e4, hg, hG, hb4⟩; subst e4; refine ⟨_, rfl, ?_⟩; have hb4' := hbd.trans (hb4.mono hbd.size)
  refine hK.out _ _ (fun _ => kS.out _ hb4') ?_
  clear hK K
  try simp only [Act.put, List.setIfInBounds_toArray, List.set_cons_zero, List.set_cons_succ]
  have hE4 := hEq.out _ _ (hb3.trans (hb4'.mono hb3.size)) hG
  refine oneE 4 rfl (by kernel_rfl) (fun K hK => ?_)
  refine step_callC rfl 116 _ (by go_simp) hE4 ?_
  rintro e w5 ⟨e5, h5⟩; subst e5; subst h5; refine ⟨_, rfl, ?_⟩
  refine hK.out _ _ (fun _ => kS.out _ hb4') ?_
  clear hK K
  try simp only [Act.put, List.setIfInBounds_toArray, List.set_cons_zero, List.set_cons_succ]
  have hN4 := HN3.out.below hb4' HN3.out.lt
  refine oneE 5 rfl (by kernel_rfl) (fun K hK => ?_)
  refine step_storeRow rfl 52 (.tmp 2) (.tmp 69) rfl (w.heap.size + 1) #[.int .i64 4, .int .u64 (lsn : Nat), .slice none 0 0, .int .u32 (m : Nat), .slice A2 dl c2, .int .u32 0, .int .u32 0, .int .u32 0, .int .u64 0] rfl rfl 52 _ hN4 (by kernel_rfl) rfl (by simp [Value.oneCell']) ?_
  skip
  refine hK.out _ _ (fun h => absurd h (by decide)) ?_
  clear hK K
  try simp only [Act.put, List.setIfInBounds_toArray, List.set_cons_zero, List.set_cons_succ]
  refine oneE 6 rfl (by kernel_rfl) (fun K hK => ?_)
  go_simp
  refine hK.out _ _ (fun h => absurd h (by decide)) ?_
  clear hK K
  try simp only [Act.put, List.setIfInBounds_toArray, List.set_cons_zero, List.set_cons_succ]
  refine doneE (by kernel_rfl) ?_ _
  go_wp2
  refine bodyPost_ret (results_cell_tmp rfl _ _ (w.heap.size + 1) 52 #[.int .i64 4, .int .u64 (lsn : Nat), .slice none 0 0, .int .u32 (m : Nat), .slice A2 dl c2, .int .u32 0, .int .u32 0, .int .u32 0, .int .u64 0] (0, 0) _ rfl (setRow_heap _ _ _ _ _ _ hN4) Tryz.underlying52 rfl (by kernel_rfl)) rfl ?_
  have hb5 := hb3.trans (hb4'.mono hb3.size)
  have hb6 := hb5.trans ((fr_setRow _ (w.heap.size + 1) #[.int .i64 4, .int .u64 (lsn : Nat), .slice none 0 0, .int .u32 (m : Nat), .slice A2 dl c2, .int .u32 0, .int .u32 0, .int .u32 0, .int .u64 0]).below (B := w.heap.size) hb5.size (fun k hk => by omega))
  refine ⟨A2, c2, rfl, fun ad had => by have := hA2 ad had; omega, ?_, hb6⟩
  have hq := reads_mono (HRD.out.below hb4') hb4'.size
  rw [size_setRow]
  exact reads_fr hq (fr_setRow _ _ _) (Nat.le_refl _) (fun ad had => by have := hA2 ad had; show ¬ ad.block = w.heap.size + 1; omega)
end Go.Proofs.YtenfkghoolegfaaGreatDoor
set_option linter.unusedVariables false
namespace Go.Proofs.YtenfkghoolegfaaGreatDoor
open Go.RowKit
theorem Open_err {B : Nat} (A : Option Addr) (c : Nat) (b : List UInt8) (w : World) (hB : B ≤ w.heap.size) (hr : Reads w B 1 A b.length (bl b)) (hc : b.length ≤ c) (he : openE b ≠ 0) :
    Calls Tryz.prog 90 #[.slice A b.length c] w fun e w' => e = .returned (pageNo (openE b)) ∧ Below w.heap.size w w' := by
  unfold openE at he ⊢
  by_cases h1 : b.length ≠ 256
  · rw [if_pos h1]
    exact Open_len A b.length c w h1
  · rw [if_neg h1] at he ⊢
    have hl : b.length = 256 := Decidable.not_not.1 h1
    obtain ⟨a, rfl, _⟩ := hr.2 (by omega)
    by_cases h2 : checkC b = false
    · rw [if_pos h2]
      have := Open_sum a c b w hB hr hl (by omega) h2
      rw [hl]
      exact this
    · rw [if_neg h2] at he ⊢
      by_cases h3 : 1 ≤ (b.getD 0 0).toNat ∧ (b.getD 0 0).toNat ≤ 5
      · rw [if_pos h3] at he
        exact absurd rfl he
      · rw [if_neg h3]
        have := Open_kind a c b w hB hr hl (by omega) (by simpa using h2) h3
        rw [hl]
        exact this
/-- A node's parts lie in blocks from L on. -/
structure NodeLo (L : Nat) (x : NX) : Prop where
  ca : ∀ ad, x.ca = some ad → L ≤ ad.block
  da : ∀ ad, x.da = some ad → L ≤ ad.block
  ka : ∀ y ∈ x.l, ∀ ad, y.ka = some ad → L ≤ ad.block
  va : ∀ y ∈ x.l, ∀ ad, y.va = some ad → L ≤ ad.block
theorem NodeLo.mono {L L' : Nat} {x : NX} (h : NodeLo L x) (hL : L' ≤ L) : NodeLo L' x :=
  ⟨fun ad e => Nat.le_trans hL (h.ca ad e), fun ad e => Nat.le_trans hL (h.da ad e), fun y hy ad e => Nat.le_trans hL (h.ka y hy ad e), fun y hy ad e => Nat.le_trans hL (h.va y hy ad e)⟩
theorem reads_far {w w' : World} {B size n : Nat} {A : Option Addr} {xs : List Value} {X : Nat → Prop} (h : Reads w B size A n xs) (hf : Fr X w w') (hB : B ≤ w.heap.size) (hA : ∀ ad, A = some ad → ¬ X ad.block) : Reads w' B size A n xs := reads_fr h hf hB hA
theorem CellsAt.fr {w w' : World} {B : Nat} {A : Option Addr} {l : List CX} {X : Nat → Prop} (h : CellsAt w B A l) (hf : Fr X w w') (hB : B ≤ w.heap.size) (h1 : ∀ ad, A = some ad → ¬ X ad.block) (h2 : ∀ y ∈ l, ∀ ad, y.ka = some ad → ¬ X ad.block) (h3 : ∀ y ∈ l, ∀ ad, y.va = some ad → ¬ X ad.block) : CellsAt w' B A l := by
  refine ⟨?_, fun y hy => reads_fr (h.key y hy) hf hB (h2 y hy), fun y hy => reads_fr (h.val y hy) hf hB (h3 y hy)⟩
  rcases h.row with h0 | ⟨g, o, e, hg, hc⟩
  · exact .inl h0
  · refine .inr ⟨g, o, e, hg, fun k y hy j u hu => ?_⟩
    rw [← hc k y hy j u hu]
    exact World.cell?_of_block (w := w) (hf.block g (Nat.lt_of_lt_of_le hg hB) (h1 _ e))
theorem NodeAt.fr {w w' : World} {B : Nat} {x : NX} {X : Nat → Prop} (h : NodeAt w B x) (hf : Fr X w w') (hB : B ≤ w.heap.size) {L : Nat} (hL : NodeLo L x) (hX : ∀ k, X k → k < L) : NodeAt w' B x :=
  have far : ∀ ad : Addr, L ≤ ad.block → ¬ X ad.block := fun ad h1 h2 => by have := hX _ h2; omega
  ⟨h.cells.fr hf hB (fun ad e => far ad (hL.ca ad e)) (fun y hy ad e => far ad (hL.ka y hy ad e)) (fun y hy ad e => far ad (hL.va y hy ad e)), reads_fr h.data hf hB (fun ad e => far ad (hL.da ad e)), h.fit, h.many, h.long⟩
def zeroCs : Array Value := #[.int .i64 0, .int .u64 0, .slice none 0 0, .int .u32 0, .slice none 0 0, .int .u32 0, .int .u32 0, .int .u32 0, .int .u64 0]
def ReadC (kind lsn : Nat) (body : List UInt8) : Prop := ∀ (B : Nat) (a : Addr) (w : World), B ≤ w.heap.size → Reads w B 1 (some a) body.length (bl body) → body.length = 243 →
  Calls Tryz.prog 91 #[.agg #[.int .i64 (kind : Nat), .int .u64 (lsn : Nat), .slice (some a) 243 243]] w fun e w' => ∃ x : NX, e = .returned (.tuple #[x.val, .bool (readPg kind lsn body).isSome]) ∧ (∀ n, readPg kind lsn body = some n → x.n = n) ∧ NodeAt w' w'.heap.size x ∧ NodeLo w.heap.size x ∧ Below w.heap.size w w'
/-- What Get gives: the node, or the error. -/
def GetR (b : List UInt8) (B : Nat) (e : Ending) (w w' : World) : Prop := (match getP b with
  | .error k => e = .returned (.tuple #[.agg zeroCs, .int .i64 k])
  | .ok n => ∃ x : NX, x.n = n ∧ e = .returned (.tuple #[x.val, .int .i64 0]) ∧ NodeAt w' w'.heap.size x ∧ NodeLo B x) ∧ Below B w w'
set_option maxHeartbeats 2000000 in
set_option maxRecDepth 1000000 in
theorem Get_err {B : Nat} (A : Option Addr) (c : Nat) (b : List UInt8) (w : World) (hB : B ≤ w.heap.size) (hr : Reads w B 1 A b.length (bl b)) (hc : b.length ≤ c) (he : openE b ≠ 0) :
    Calls Tryz.prog 69 #[.slice A b.length c] w fun e w' => GetR b w.heap.size e w w' := by
  have hg : getP b = .error (openE b) := by unfold getP; rw [if_pos he]
  unfold GetR
  rw [hg]
  simp only
  obtain ⟨w1, hw1⟩ : ∃ w1, w1 = w.alloc (.cells zeroCs 52) := ⟨_, rfl⟩
  have hb1 : Below w.heap.size w w1 := by rw [hw1]; exact (Below.refl _ w).alloc (Nat.le_refl _) _
  have hN1 : Blk w1 w.heap.size 52 zeroCs := by rw [hw1]; exact Blk.new _ _ _
  have hO := Open_err A c b w1 (Nat.le_trans hB hb1.size) (hr.below (hb1.mono hB)) hc he
  obtain ⟨k, HK⟩ : ∃ k, Hid (openE b = k) := ⟨_, Lib.hid rfl⟩
  rw [HK.out] at hO he ⊢
  have k0 : (k != 0) = true := by simpa using he
  unfold pageNo at hO
  unfold zeroCs at hN1 hw1 ⊢
  have HW1 := Lib.hid hw1
  have HN1 := Lib.hid hN1
  clear hw1 hN1 hr he
  go_enter Tryz.func69, Tryz.ntmps69
  go_wp2_with (first
    | (rw [← HW1.out]; go_at_call 90; refine hO.mono ?_; rintro e w2 ⟨rfl, hb2⟩; have hb2a : Below w1.heap.size w1 (w2.alloc (.cells #[.int .i64 0, .int .u64 0, .slice none 0 0] 161)) := hb2.alloc hb2.size _; have hN3 := HN1.out.below hb2a HN1.out.lt)
    | (refine wpList_store_row rfl 52 (.tmp 2) (.tmp 15) rfl w.heap.size _ rfl rfl 52 _ hN3 (by kernel_rfl) rfl (by simp [Value.oneCell']) ?_))
  refine bodyPost_ret (results_cell_tmp rfl _ _ w.heap.size 52 _ (0, 0) _ rfl (setRow_heap _ _ _ _ _ _ hN3) Tryz.underlying52 rfl (by kernel_rfl)) rfl ?_
  refine ⟨rfl, ?_⟩
  have hb3 := hb1.trans (hb2a.mono hb1.size)
  exact hb3.trans ((fr_setRow _ w.heap.size _).below (B := w.heap.size) hb3.size (fun k hk => by omega))
set_option maxHeartbeats 4000000 in
set_option maxRecDepth 1000000 in
theorem Get_of {B : Nat} (A : Option Addr) (c : Nat) (b : List UInt8) (w : World) (hB : B ≤ w.heap.size) (hr : Reads w B 1 A b.length (bl b)) (hc : b.length ≤ c) (hRd : openE b = 0 → ReadC (kindB b) (lsnB b) (restB b)) :
    Calls Tryz.prog 69 #[.slice A b.length c] w fun e w' => GetR b w.heap.size e w w' := by
  by_cases he : openE b ≠ 0
  · exact Get_err A c b w hB hr hc he
  have he : openE b = 0 := Decidable.not_not.1 he
  obtain ⟨_, hl, hk1, hk5, hrl, hlsn⟩ := seal_open he
  have hRd := hRd he
  have hcs : checkC b = true := by
    unfold openE at he
    rw [if_neg (by omega)] at he
    by_cases h : checkC b = false
    · rw [if_pos h] at he; cases he
    · simpa using h
  obtain ⟨a, rfl, _⟩ := hr.2 (by omega)
  obtain ⟨w1, hw1⟩ : ∃ w1, w1 = w.alloc (.cells zeroCs 52) := ⟨_, rfl⟩
  have hb1 : Below w.heap.size w w1 := by rw [hw1]; exact (Below.refl _ w).alloc (Nat.le_refl _) _
  have hN1 : Blk w1 w.heap.size 52 zeroCs := by rw [hw1]; exact Blk.new _ _ _
  have hO := Open_ok a c b w1 (Nat.le_trans hB hb1.size) (hr.below (hb1.mono hB)) hl (by omega) hcs ⟨hk1, hk5⟩
  have hgN : readPg (kindB b) (lsnB b) (restB b) = none → getP b = .error 80 := fun h => by
    unfold getP
    rw [if_neg (by rw [he]; simp), h]
  have hgS : ∀ n, readPg (kindB b) (lsnB b) (restB b) = some n → getP b = if nodeOK n = true then .ok n else .error 80 := fun n h => by
    unfold getP
    rw [if_neg (by rw [he]; simp), h]
  unfold GetR
  rw [hl]
  unfold ReadC at hRd
  obtain ⟨kk, HK⟩ : ∃ k, Hid (kindB b = k) := ⟨_, Lib.hid rfl⟩
  obtain ⟨ll, HLS⟩ : ∃ k, Hid (lsnB b = k) := ⟨_, Lib.hid rfl⟩
  obtain ⟨bb, HBB⟩ : ∃ k, Hid (restB b = k) := ⟨_, Lib.hid rfl⟩
  rw [HK.out, HLS.out, HBB.out] at hO hRd hgN hgS
  rw [HBB.out] at hrl
  have HRd : Hid (∀ (a : Addr) (W : World), Reads W W.heap.size 1 (some a) 243 (bl bb) → _) := Lib.hid fun a W h => hRd W.heap.size a W (Nat.le_refl _) (by rw [hrl]; exact h) hrl
  obtain ⟨rp, HRP⟩ : ∃ r, Hid (readPg kk ll bb = r) := ⟨_, Lib.hid rfl⟩
  rw [HRP.out] at HRd hgN hgS
  unfold zeroCs at hN1 hw1 ⊢
  have HW1 := Lib.hid hw1
  have HN1 := Lib.hid hN1
  clear hw1 hN1 hr he hcs hRd hk1 hk5 hlsn hl
  cases rp with
  | none =>
    rw [hgN rfl]
    clear hgN hgS
    simp only [Option.isSome_none] at HRd ⊢
    go_enter Tryz.func69, Tryz.ntmps69
    go_wp2_with fail
    rw [← HW1.out]; go_at_call 90; refine hO.mono ?_; rintro e w2 ⟨a2, rfl, hr2, hb2⟩
    have hb2a : Below w1.heap.size w1 (w2.alloc (.cells #[.int .i64 (kk : Nat), .int .u64 (ll : Nat), .slice (some a2) 243 243] 161)) := hb2.alloc hb2.size _
    have hN2 := HN1.out.below hb2a HN1.out.lt
    have hr3 := reads_mono (hr2.below ((Below.refl _ w2).alloc (Nat.le_refl _) (.cells #[.int .i64 (kk : Nat), .int .u64 (ll : Nat), .slice (some a2) 243 243] 161))) (show w2.heap.size ≤ (w2.alloc (.cells #[.int .i64 (kk : Nat), .int .u64 (ll : Nat), .slice (some a2) 243 243] 161)).heap.size by simp)
    go_wp2_with (first
      | (go_at_call 91; refine (HRd.out _ _ hr3).mono ?_; rintro e w4 ⟨x, rfl, _, hx, _, hb4⟩; have hb4a := hb2a.trans (hb4.mono hb2a.size); have hb4b : Below w1.heap.size w1 (w4.alloc (.cells x.cells 52)) := hb4a.alloc hb4a.size _; have hN3 := HN1.out.below hb4b HN1.out.lt; unfold NX.cells at hN3 hb4b; unfold NX.val nodeV)
      | (refine wpList_store_row rfl 52 (.tmp 2) (.tmp 29) rfl w.heap.size _ rfl rfl 52 _ hN3 (by kernel_rfl) rfl (by simp [Value.oneCell']) ?_))
    refine bodyPost_ret (results_cell_tmp rfl _ _ w.heap.size 52 _ (0, 0) _ rfl (setRow_heap _ _ _ _ _ _ hN3) Tryz.underlying52 rfl (by kernel_rfl)) rfl ?_
    refine ⟨rfl, ?_⟩
    have hb3 := hb1.trans (hb4b.mono hb1.size)
    exact hb3.trans ((fr_setRow _ w.heap.size _).below (B := w.heap.size) hb3.size (fun k hk => by omega))
  | some n =>
    rw [hgS n rfl]
    clear hgN hgS
    simp only [Option.isSome_some] at HRd ⊢
    have HIs : Hid (∀ (x : NX) (W : World), NodeAt W W.heap.size x → _) := Lib.hid fun x W h => isNode_any x W h (Nat.le_refl _)
    cases hn : nodeOK n with
    | false =>
      simp only [Bool.false_eq_true, if_false]
      go_enter Tryz.func69, Tryz.ntmps69
      go_wp2_with fail
      rw [← HW1.out]; go_at_call 90; refine hO.mono ?_; rintro e w2 ⟨a2, rfl, hr2, hb2⟩
      have hb2a : Below w1.heap.size w1 (w2.alloc (.cells #[.int .i64 (kk : Nat), .int .u64 (ll : Nat), .slice (some a2) 243 243] 161)) := hb2.alloc hb2.size _
      have hN2 := HN1.out.below hb2a HN1.out.lt
      have hr3 := reads_mono (hr2.below ((Below.refl _ w2).alloc (Nat.le_refl _) (.cells #[.int .i64 (kk : Nat), .int .u64 (ll : Nat), .slice (some a2) 243 243] 161))) (show w2.heap.size ≤ (w2.alloc (.cells #[.int .i64 (kk : Nat), .int .u64 (ll : Nat), .slice (some a2) 243 243] 161)).heap.size by simp)
      go_wp2_with (first
        | (go_at_call 91; refine (HRd.out _ _ hr3).mono ?_; rintro e w4 ⟨x, rfl, hxn, hx, hlo, hb4⟩; have hb4a := hb2a.trans (hb4.mono hb2a.size); have hb4b : Below w1.heap.size w1 (w4.alloc (.cells x.cells 52)) := hb4a.alloc hb4a.size _; have hX4 := Blk.new w4 52 x.cells; have hI := HIs.out x (w4.alloc (.cells x.cells 52)) ((hx.below ((Below.refl _ w4).alloc (Nat.le_refl _) (.cells x.cells 52))).mono (show w4.heap.size ≤ (w4.alloc (.cells x.cells 52)).heap.size by simp)); rw [hxn n rfl, hn] at hI; unfold NX.val nodeV at hI; unfold NX.cells at hX4 hb4b hI; unfold NX.val nodeV)
        | (refine wpList_load_row rfl 52 (.tmp 6) rfl w4.heap.size rfl _ _ _ _ hX4 Tryz.underlying52 rfl (by kernel_rfl) ?_)
        | (go_at_call 92; refine hI.mono ?_; rintro e w6 ⟨rfl, hb6⟩; have hb6a := hb4b.trans (hb6.mono hb4b.size); have hN3 := HN1.out.below hb6a HN1.out.lt)
        | (refine wpList_store_row rfl 52 (.tmp 2) (.tmp 29) rfl w.heap.size _ rfl rfl 52 _ hN3 (by kernel_rfl) rfl (by simp [Value.oneCell']) ?_))
      refine bodyPost_ret (results_cell_tmp rfl _ _ w.heap.size 52 _ (0, 0) _ rfl (setRow_heap _ _ _ _ _ _ hN3) Tryz.underlying52 rfl (by kernel_rfl)) rfl ?_
      refine ⟨rfl, ?_⟩
      have hb7 := hb1.trans (hb6a.mono hb1.size)
      exact hb7.trans ((fr_setRow _ w.heap.size _).below (B := w.heap.size) hb7.size (fun k hk => by omega))
    | true =>
      simp only [if_true]
      go_enter Tryz.func69, Tryz.ntmps69
      go_wp2_with fail
      rw [← HW1.out]; go_at_call 90; refine hO.mono ?_; rintro e w2 ⟨a2, rfl, hr2, hb2⟩
      have hb2a : Below w1.heap.size w1 (w2.alloc (.cells #[.int .i64 (kk : Nat), .int .u64 (ll : Nat), .slice (some a2) 243 243] 161)) := hb2.alloc hb2.size _
      have hN2 := HN1.out.below hb2a HN1.out.lt
      have hr3 := reads_mono (hr2.below ((Below.refl _ w2).alloc (Nat.le_refl _) (.cells #[.int .i64 (kk : Nat), .int .u64 (ll : Nat), .slice (some a2) 243 243] 161))) (show w2.heap.size ≤ (w2.alloc (.cells #[.int .i64 (kk : Nat), .int .u64 (ll : Nat), .slice (some a2) 243 243] 161)).heap.size by simp)
      go_wp2_with (first
        | (go_at_call 91; refine (HRd.out _ _ hr3).mono ?_; rintro e w4 ⟨x, rfl, hxn, hx, hlo, hb4⟩; have hb4a := hb2a.trans (hb4.mono hb2a.size); have hb4b : Below w1.heap.size w1 (w4.alloc (.cells x.cells 52)) := hb4a.alloc hb4a.size _; have hX4 := Blk.new w4 52 x.cells; have hI := HIs.out x (w4.alloc (.cells x.cells 52)) ((hx.below ((Below.refl _ w4).alloc (Nat.le_refl _) (.cells x.cells 52))).mono (show w4.heap.size ≤ (w4.alloc (.cells x.cells 52)).heap.size by simp)); rw [hxn n rfl, hn] at hI; unfold NX.val nodeV at hI; unfold NX.cells at hX4 hb4b hI; unfold NX.val nodeV)
        | (refine wpList_load_row rfl 52 (.tmp 6) rfl w4.heap.size rfl _ _ _ _ hX4 Tryz.underlying52 rfl (by kernel_rfl) ?_)
        | (go_at_call 92; refine hI.mono ?_; rintro e w6 ⟨rfl, hb6⟩; have hb6a := hb4b.trans (hb6.mono hb4b.size); have hN3 := HN1.out.below hb6a HN1.out.lt; have hX6 := hX4.below hb6 hX4.lt)
        | (refine wpList_load_row rfl 52 (.tmp 6) rfl w4.heap.size rfl _ _ _ _ hX6 Tryz.underlying52 rfl (by kernel_rfl) ?_)
        | (refine wpList_store_row rfl 52 (.tmp 2) (.tmp 30) rfl w.heap.size _ rfl rfl 52 _ hN3 (by kernel_rfl) rfl (by simp [Value.oneCell']) ?_))
      refine bodyPost_ret (results_cell_tmp rfl _ _ w.heap.size 52 _ (0, 0) _ rfl (setRow_heap _ _ _ _ _ _ hN3) Tryz.underlying52 rfl (by kernel_rfl)) rfl ?_
      have hb7 := hb1.trans (hb6a.mono hb1.size)
      refine ⟨⟨x, hxn n rfl, rfl, ?_, hlo.mono (Nat.le_trans hb1.size hb2a.size)⟩, hb7.trans ((fr_setRow _ w.heap.size _).below (B := w.heap.size) hb7.size (fun k hk => by omega))⟩
      rw [size_setRow]
      have h46 : Below w4.heap.size w4 w6 := ((Below.refl _ w4).alloc (Nat.le_refl _) _).trans (hb6.mono (by simp))
      have hs : w.heap.size + 1 ≤ w1.heap.size := HN1.out.lt
      exact ((hx.below h46).mono h46.size).fr (fr_setRow _ _ _) (Nat.le_refl _) (hlo.mono (Nat.le_trans hs hb2a.size)) (fun k hk => by omega)
end Go.Proofs.YtenfkghoolegfaaGreatDoor
set_option linter.unusedVariables false
namespace Go.Proofs.YtenfkghoolegfaaGreatDoor
open Go.RowKit
theorem some_if {α : Type} {c : Prop} [Decidable c] (x : α) : (if c then some x else none).isSome = decide c := by
  by_cases h : c
  · rw [if_pos h, decide_eq_true h]; rfl
  · rw [if_neg h, decide_eq_false h]; rfl
theorem ReadC_5 (lsn : Nat) (b : List UInt8) : ReadC 5 lsn b := by
  intro B a w hB hr hl
  refine (read_free lsn a b w hB hr hl).mono ?_
  rintro e w' ⟨rfl, hb⟩
  have e1 : readPg 5 lsn b = if padB (fixN 4 (numN (b.take 4))) = b then some ⟨5, lsn, [], numN (b.take 4), [], 0, 0, 0, 0⟩ else none := rfl
  refine ⟨⟨5, lsn, none, 0, [], numN (b.take 4), none, 0, [], 0, 0, 0, 0⟩, ?_, ?_, ⟨⟨.inl rfl, fun y hy => (by cases hy), fun y hy => (by cases hy)⟩, Reads.none_, fun y hy => (by cases hy), Nat.zero_le _, Nat.zero_le _⟩, ⟨fun ad h => (by cases h), fun ad h => (by cases h), fun y hy => (by cases hy), fun y hy => (by cases hy)⟩, hb⟩
  · rw [e1, some_if]
    rfl
  · intro n hn
    rw [e1] at hn
    split at hn
    · cases hn; rfl
    · cases hn
theorem ReadC_4 (lsn : Nat) (b : List UInt8) : ReadC 4 lsn b := by
  intro B a w hB hr hl
  refine (read_over lsn a b w hB hr hl).mono ?_
  rintro e w' ⟨A, c, rfl, hlo, hrd, hb⟩
  have e1 : readPg 4 lsn b = if padB (fixN 4 (numN (b.take 4)) ++ ([UInt8.ofNat ((b.drop 5).take (min (5 + (b.getD 4 0).toNat) b.length - 5)).length] ++ (b.drop 5).take (min (5 + (b.getD 4 0).toNat) b.length - 5))) = b then some ⟨4, lsn, [], numN (b.take 4), (b.drop 5).take (min (5 + (b.getD 4 0).toNat) b.length - 5), 0, 0, 0, 0⟩ else none := rfl
  rw [hl] at e1
  refine ⟨⟨4, lsn, none, 0, [], numN (b.take 4), A, c, (b.drop 5).take (min (5 + (b.getD 4 0).toNat) 243 - 5), 0, 0, 0, 0⟩, ?_, ?_, ⟨⟨.inl rfl, fun y hy => (by cases hy), fun y hy => (by cases hy)⟩, hrd, fun y hy => (by cases hy), Nat.zero_le _, ?_⟩, ⟨fun ad h => (by cases h), hlo, fun y hy => (by cases hy), fun y hy => (by cases hy)⟩, hb⟩
  · rw [e1, some_if]
    rfl
  · intro n hn
    rw [e1] at hn
    split at hn
    · cases hn; rfl
    · cases hn
  · show ((b.drop 5).take _).length ≤ _
    rw [List.length_take]
    omega
end Go.Proofs.YtenfkghoolegfaaGreatDoor
set_option linter.unusedVariables false
namespace Go.Proofs.YtenfkghoolegfaaGreatDoor
open Go.RowKit
/-- A page's number, its bytes, where they lie, when they came. -/
structure KE where
  nm : Nat
  A : Option Addr
  cap : Nat
  b : List UInt8
  born : Nat
def KE.val (x : KE) : Value := .slice x.A x.b.length x.cap
def KE.ent (x : KE) : MapEntry := { key := .int .u32 (x.nm : Nat), val := x.val, born := x.born }
/-- Where a packet is in a list. -/
def look (id : Nat) : List KE → Nat → Option (Nat × KE)
  | [], _ => none
  | x :: l, i => if x.nm = id then some (i, x) else look id l (i + 1)
theorem find_look (id : Nat) : ∀ (l : List KE) (i : Nat), Instr.findNow (.int .u32) (.int .u32 (id : Nat)) (l.map KE.ent) i = some ((look id l i).map fun r => (r.1, r.2.val))
  | [], i => rfl
  | x :: l, i => by
    simp only [List.map_cons, Instr.findNow, KE.ent, Instr.sameNow, look]
    by_cases h : x.nm = id
    · subst h; simp
    · have h' : ((id : Int) == (x.nm : Int)) = false := by simp; omega
      rw [if_neg h]
      simp only [h', if_true]
      exact find_look id l (i + 1)
theorem look_spec (id : Nat) : ∀ (l : List KE) (i j : Nat) (x : KE), look id l i = some (j, x) → i ≤ j ∧ l[j - i]? = some x ∧ x.nm = id
  | [], i, j, x, h => by cases h
  | y :: l, i, j, x, h => by
    unfold look at h
    by_cases e : y.nm = id
    · rw [if_pos e] at h; cases h; exact ⟨Nat.le_refl _, by simp, e⟩
    · rw [if_neg e] at h
      obtain ⟨h1, h2, h3⟩ := look_spec id l (i + 1) j x h
      refine ⟨by omega, ?_, h3⟩
      rw [show j - i = (j - (i + 1)) + 1 by omega, List.getElem?_cons_succ]
      exact h2

theorem map_erase {α β : Type} (f : α → β) : ∀ (l : List α) (j : Nat), (l.map f).eraseIdx j = (l.eraseIdx j).map f
  | [], _ => rfl
  | _ :: _, 0 => rfl
  | a :: l, j + 1 => by simp [map_erase f l j]
theorem zeroPk (w : World) : (zeroValue 23).run Tryz.prog w = .ok (.slice none 0 0) w := by kernel_rfl
theorem getMap {P : Program} {w : World} {r : Nat} {es : Array MapEntry} {clock : Nat} (h : w.heap[r]? = some (.map es clock)) : (getObj r).run P w = .ok (.map es clock) w := by
  simp [getObj, Sem.run, h]
/-- The world with another map in a block. -/
structure MapTo (w w1 : World) (M : Nat) (es : Array MapEntry) (clock : Nat) : Prop where
  map : w1.heap[M]? = some (.map es clock)
  os : w1.os = w.os
  tape : w1.tape = w.tape
  output : w1.output = w.output
  size : w1.heap.size = w.heap.size
  block : ∀ k, k ≠ M → w1.heap[k]? = w.heap[k]?
theorem MapTo.fr {w w1 : World} {M : Nat} {es : Array MapEntry} {clock : Nat} (h : MapTo w w1 M es clock) : Fr (· = M) w w1 := ⟨h.os, h.tape, h.output, by rw [h.size]; exact Nat.le_refl _, fun k _ hx => h.block k hx⟩
theorem MapTo.frX {X : Nat → Prop} {a w w1 : World} {M : Nat} {es : Array MapEntry} {clock : Nat} (h : MapTo w w1 M es clock) (hf : Fr X a w) (hX : a.heap.size ≤ M ∨ X M) : Fr X a w1 :=
  ⟨h.os.trans hf.os, h.tape.trans hf.tape, h.output.trans hf.output, by rw [h.size]; exact hf.size, fun k hk hx => (h.block k (fun e => by subst e; rcases hX with h1 | h1; omega; exact hx h1)).trans (hf.block k hk hx)⟩
theorem MapTo.cell {w w1 : World} {M : Nat} {es : Array MapEntry} {clock : Nat} (h : MapTo w w1 M es clock) {b o : Nat} (hb : b ≠ M) : w1.cell? ⟨b, o, none⟩ = w.cell? ⟨b, o, none⟩ := World.cell?_of_block (w := w) (h.block b hb)
theorem MapTo.frozen {w w1 : World} {M : Nat} {es : Array MapEntry} {clock : Nat} (h : MapTo w w1 M es clock) {b o : Nat} (hb : b ≠ M) : w1.frozen? ⟨b, o, none⟩ = w.frozen? ⟨b, o, none⟩ := World.frozen?_of_block (w := w) (h.block b hb)
theorem setMap {P : Program} {w : World} {r : Nat} {es es' : Array MapEntry} {clock clock' : Nat} (h : w.heap[r]? = some (.map es clock)) : ∃ w1, (setObj r (.map es' clock')).run P w = .ok () w1 ∧ MapTo w w1 r es' clock' := by
  have hlt := (Array.getElem?_eq_some_iff.1 h).1
  refine ⟨{ w with heap := w.heap.setIfInBounds r (.map es' clock') }, by simp [setObj, Sem.run, h], ?_, rfl, rfl, rfl, by simp, fun k hk => ?_⟩
  · simp [hlt]
  · exact Array.getElem?_setIfInBounds_ne (Ne.symm hk)
theorem chk (b : Bool) (id : Nat) (w : World) : (Instr.checkKey b 10000 22 (.int .u32 (id : Nat))).run Tryz.prog w = .ok () w := by
  have : ∀ q, (Instr.checkKey b (q + 1) 22 (.int .u32 (id : Nat))).run Tryz.prog w = .ok () w := fun q => by
    simp [Instr.checkKey, run_underlying Tryz.underlying22]
  exact this 9999

section
variable {w : World} {ops : Array Oper} {rest : List Oper} {o : Oper} {a : Act} {Q : Exit → Act → World → Prop} {M : Nat} {id : Nat} {l : List KE} {clock : Nat}
theorem run_look (hM : w.heap[M]? = some (.map (l.map KE.ent).toArray clock)) (ok : Bool) :
    (Instr.lookup 91 (.map (some M)) (.int .u32 (id : Nat)) ok).run Tryz.prog w = .ok (match look id l 0 with
      | some r => if ok then .tuple #[r.2.val, .bool true] else r.2.val
      | none => if ok then .tuple #[.slice none 0 0, .bool false] else .slice none 0 0) w := by
  have hf := find_look id l 0
  cases hl : look id l 0 with
  | none =>
    rw [hl] at hf
    simp [Instr.lookup, run_underlying Tryz.underlying91, getMap hM, chk, Instr.findKey, run_underlying Tryz.underlying22, hf, Result.andThen]
  | some r =>
    rw [hl] at hf
    simp [Instr.lookup, run_underlying Tryz.underlying91, getMap hM, chk, Instr.findKey, run_underlying Tryz.underlying22, hf, Result.andThen]
theorem wpList_look_some (hg : o.guard = none) (m x : Operand) (hop : o.op = Op.lookup 91 m x true) (hm : a.eval m = .map (some M)) (hx : a.eval x = .int .u32 (id : Nat))
    (hM : w.heap[M]? = some (.map (l.map KE.ent).toArray clock)) {j : Nat} {y : KE} (hl : look id l 0 = some (j, y))
    (hK : wpList Tryz.prog ops Q rest (a.put o.dst (.tuple #[y.val, .bool true])) w) : wpList Tryz.prog ops Q (o :: rest) a w := by
  refine wpList_plain hg fun K' hK' => ?_
  have hrun := run_look (id := id) hM true
  rw [hl] at hrun
  unfold Oper.wp
  simp [execOp, hop, hm, hx, hrun, Result.andThen]
  exact hK' _ _ hK
theorem wpList_look_none (hg : o.guard = none) (m x : Operand) (hop : o.op = Op.lookup 91 m x true) (hm : a.eval m = .map (some M)) (hx : a.eval x = .int .u32 (id : Nat))
    (hM : w.heap[M]? = some (.map (l.map KE.ent).toArray clock)) (hl : look id l 0 = none)
    (hK : wpList Tryz.prog ops Q rest (a.put o.dst (.tuple #[.slice none 0 0, .bool false])) w) : wpList Tryz.prog ops Q (o :: rest) a w := by
  refine wpList_plain hg fun K' hK' => ?_
  have hrun := run_look (id := id) hM true
  rw [hl] at hrun
  unfold Oper.wp
  simp [execOp, hop, hm, hx, hrun, Result.andThen]
  exact hK' _ _ hK
theorem wpList_look1 (hg : o.guard = none) (m x : Operand) (hop : o.op = Op.lookup 91 m x false) (hm : a.eval m = .map (some M)) (hx : a.eval x = .int .u32 (id : Nat))
    (hM : w.heap[M]? = some (.map (l.map KE.ent).toArray clock)) {j : Nat} {y : KE} (hl : look id l 0 = some (j, y))
    (hK : wpList Tryz.prog ops Q rest (a.put o.dst (y.val)) w) : wpList Tryz.prog ops Q (o :: rest) a w := by
  refine wpList_plain hg fun K' hK' => ?_
  have hrun := run_look (id := id) hM false
  rw [hl] at hrun
  unfold Oper.wp
  simp [execOp, hop, hm, hx, hrun, Result.andThen]
  exact hK' _ _ hK
theorem wpList_maplen (hg : o.guard = none) (m : Operand) (hop : o.op = Op.call { callee := Callee.builtin Builtin.len, args := #[m], argTypes := #[91] }) (hm : a.eval m = .map (some M))
    (hM : w.heap[M]? = some (.map (l.map KE.ent).toArray clock)) (hK : wpList Tryz.prog ops Q rest (a.put o.dst (.int .i64 l.length)) w) : wpList Tryz.prog ops Q (o :: rest) a w := by
  refine wpList_plain hg fun K' hK' => ?_
  have hrun : (Builtin.len_ #[91] o.type #[.map (some M)]).run Tryz.prog w = .ok (.int .i64 l.length) w := by
    simp [Builtin.len_, run_underlying Tryz.underlying91, getMap hM, goInt, Result.andThen]
  unfold Oper.wp
  simp [execOp, hop, resolve, invoke, builtin, hm, hrun, Result.andThen]
  exact hK' _ _ hK
/-- A new entry. -/
theorem run_put (hM : w.heap[M]? = some (.map (l.map KE.ent).toArray clock)) {y : KE} (hl : look y.nm l 0 = none) (hy : y.born = clock) :
    ∃ w1, (Instr.mapUpdate 91 (.map (some M)) (.int .u32 (y.nm : Nat)) y.val).run Tryz.prog w = .ok () w1 ∧ MapTo w w1 M ((l ++ [y]).map KE.ent).toArray (clock + 1) := by
  obtain ⟨w1, h1, h2⟩ := setMap (P := Tryz.prog) (es' := ((l ++ [y]).map KE.ent).toArray) (clock' := clock + 1) hM
  refine ⟨w1, ?_, h2⟩
  have hf := find_look y.nm l 0
  rw [hl] at hf
  have he : (l.map KE.ent).toArray.push { key := .int .u32 (y.nm : Nat), val := y.val, born := clock } = ((l ++ [y]).map KE.ent).toArray := by
    subst hy; simp [KE.ent]
  simp only [Instr.mapUpdate, Sem.run_bind, run_underlying Tryz.underlying91, getMap hM, chk, Instr.findKey, run_underlying Tryz.underlying22, hf, Result.andThen, Option.map_none, Sem.run_pure, he, h1]
/-- Another value at a key. -/
theorem run_set (hM : w.heap[M]? = some (.map (l.map KE.ent).toArray clock)) {j : Nat} {x y : KE} (hl : look y.nm l 0 = some (j, x)) (hy : y.born = x.born) :
    ∃ w1, (Instr.mapUpdate 91 (.map (some M)) (.int .u32 (y.nm : Nat)) y.val).run Tryz.prog w = .ok () w1 ∧ MapTo w w1 M ((l.set j y).map KE.ent).toArray clock := by
  obtain ⟨w1, h1, h2⟩ := setMap (P := Tryz.prog) (es' := ((l.set j y).map KE.ent).toArray) (clock' := clock) hM
  refine ⟨w1, ?_, h2⟩
  have hf := find_look y.nm l 0
  rw [hl] at hf
  obtain ⟨_, hj, hid⟩ := look_spec _ _ _ _ _ hl
  simp only [Nat.sub_zero] at hj
  have he : (l.map KE.ent).toArray.modify j (fun e => { e with key := .int .u32 (y.nm : Nat), val := y.val }) = ((l.set j y).map KE.ent).toArray := by
    apply Array.toList_inj.1
    simp only [Array.toList_modify, List.map_set]
    apply List.ext_getElem? ; intro k
    rw [List.getElem?_modify, List.getElem?_set]
    by_cases hk : j = k
    · subst hk
      have hlt := (List.getElem?_eq_some_iff.1 hj).1
      have hje := (List.getElem?_eq_some_iff.1 hj).2
      simp [hlt, KE.ent, hy, hje]
    · simp [hk]
  have hkey : ((l.map KE.ent).toArray[j]?).map (·.key) = some (.int .u32 (y.nm : Nat)) := by simp [hj, KE.ent, hid]
  simp only [Instr.mapUpdate, Sem.run_bind, run_underlying Tryz.underlying91, getMap hM, chk, Instr.findKey, run_underlying Tryz.underlying22, hf, Result.andThen, Option.map_some, Sem.run_pure, hkey, Option.getD_some]
  have hsb : ∀ q, Instr.sameBits q (.int .u32 (y.nm : Nat)) (.int .u32 (y.nm : Nat)) = true := fun q => by cases q <;> simp [Instr.sameBits]
  have hst : (Instr.keyThatStays (.int .u32 (y.nm : Nat)) (.int .u32 (y.nm : Nat))).run Tryz.prog w = .ok (.int .u32 (y.nm : Nat)) w := by
    simp [Instr.keyThatStays, hsb]
  rw [hst]
  simp only [he, h1]
theorem run_del (hM : w.heap[M]? = some (.map (l.map KE.ent).toArray clock)) {j : Nat} {x : KE} (hl : look id l 0 = some (j, x)) (ty : TypeId) :
    ∃ w1, (Builtin.delete_ #[91, 22] ty #[.map (some M), .int .u32 (id : Nat)]).run Tryz.prog w = .ok (.tuple #[]) w1 ∧ MapTo w w1 M ((l.eraseIdx j).map KE.ent).toArray clock := by
  obtain ⟨w1, h1, h2⟩ := setMap (P := Tryz.prog) (es' := ((l.eraseIdx j).map KE.ent).toArray) (clock' := clock) hM
  refine ⟨w1, ?_, h2⟩
  have hf := find_look id l 0
  rw [hl] at hf
  obtain ⟨_, hj, _⟩ := look_spec _ _ _ _ _ hl
  simp only [Nat.sub_zero] at hj
  have hlt := (List.getElem?_eq_some_iff.1 hj).1
  have he : (l.map KE.ent).toArray.eraseIdxIfInBounds j = ((l.eraseIdx j).map KE.ent).toArray := by
    apply Array.toList_inj.1
    simp only [Array.eraseIdxIfInBounds, List.size_toArray, List.length_map, hlt, dif_pos, Array.toList_eraseIdx]
    exact map_erase _ _ _
  simp [Builtin.delete_, run_underlying Tryz.underlying91, getMap hM, chk, Instr.findKey, run_underlying Tryz.underlying22, hf, Result.andThen, map_erase, h1]
theorem wpList_put (hg : o.guard = none) (m k v : Operand) (hop : o.op = Op.mapUpdate 91 m k v) {y : KE} (hm : a.eval m = .map (some M)) (hk : a.eval k = .int .u32 (y.nm : Nat)) (hv : a.eval v = y.val)
    (hM : w.heap[M]? = some (.map (l.map KE.ent).toArray clock)) (hl : look y.nm l 0 = none) (hy : y.born = clock)
    (hK : ∀ w1, MapTo w w1 M ((l ++ [y]).map KE.ent).toArray (clock + 1) → wpList Tryz.prog ops Q rest (a.put o.dst undef) w1) : wpList Tryz.prog ops Q (o :: rest) a w := by
  refine wpList_plain hg fun K' hK' => ?_
  obtain ⟨w1, hrun, hm1⟩ := run_put hM hl hy
  unfold Oper.wp
  simp [execOp, hop, hm, hk, hv, hrun, Result.andThen]
  exact hK' _ _ (hK w1 hm1)
theorem wpList_set (hg : o.guard = none) (m k v : Operand) (hop : o.op = Op.mapUpdate 91 m k v) {j : Nat} {x y : KE} (hm : a.eval m = .map (some M)) (hk : a.eval k = .int .u32 (y.nm : Nat)) (hv : a.eval v = y.val)
    (hM : w.heap[M]? = some (.map (l.map KE.ent).toArray clock)) (hl : look y.nm l 0 = some (j, x)) (hy : y.born = x.born)
    (hK : ∀ w1, MapTo w w1 M ((l.set j y).map KE.ent).toArray clock → wpList Tryz.prog ops Q rest (a.put o.dst undef) w1) : wpList Tryz.prog ops Q (o :: rest) a w := by
  refine wpList_plain hg fun K' hK' => ?_
  obtain ⟨w1, hrun, hm1⟩ := run_set hM hl hy
  unfold Oper.wp
  simp [execOp, hop, hm, hk, hv, hrun, Result.andThen]
  exact hK' _ _ (hK w1 hm1)
theorem wpList_del (hg : o.guard = none) (m k : Operand) (hop : o.op = Op.call { callee := Callee.builtin Builtin.delete, args := #[m, k], argTypes := #[91, 22] }) (hm : a.eval m = .map (some M)) (hk : a.eval k = .int .u32 (id : Nat))
    (hM : w.heap[M]? = some (.map (l.map KE.ent).toArray clock)) {j : Nat} {x : KE} (hl : look id l 0 = some (j, x))
    (hK : ∀ w1, MapTo w w1 M ((l.eraseIdx j).map KE.ent).toArray clock → wpList Tryz.prog ops Q rest (a.put o.dst (.tuple #[])) w1) : wpList Tryz.prog ops Q (o :: rest) a w := by
  refine wpList_plain hg fun K' hK' => ?_
  obtain ⟨w1, hrun, hm1⟩ := run_del hM hl o.type
  unfold Oper.wp
  simp [execOp, hop, resolve, invoke, builtin, hm, hk, hrun, Result.andThen]
  exact hK' _ _ (hK w1 hm1)
end
end Go.Proofs.YtenfkghoolegfaaGreatDoor
set_option linter.unusedVariables false
namespace Go.Proofs.YtenfkghoolegfaaGreatDoor
open Go.RowKit
def moreX (X : Nat → Prop) (w : World) : Nat → Prop := fun k => X k ∨ w.heap.size ≤ k
def txCs (src : Value) (M : Nat) (t : PT) : Array Value := #[src, .int .u64 (t.lsn : Nat), .int .u32 (t.root : Nat), .int .u32 (t.pages : Nat), .int .u32 (t.free : Nat), .int .u64 (t.entries : Nat), .map (some M), .bool t.changed]
/-- Bytes that can be read, in blocks of X. -/
structure BytesX (X : Nat → Prop) (w : World) (A : Option Addr) (c : Nat) (b : List UInt8) : Prop where
  rd : Reads w w.heap.size 1 A b.length (bl b)
  cap : b.length ≤ c
  long : b.length ≤ 3000000
  inX : b.length ≠ 0 → ∀ ad, A = some ad → X ad.block ∧ ad.block < w.heap.size
def KeepX (X : Nat → Prop) (w w' : World) : Prop := w.heap.size ≤ w'.heap.size ∧ ∀ k, X k → k < w.heap.size → w'.heap[k]? = w.heap[k]?
theorem KeepX.of_below {X : Nat → Prop} {w w' : World} (h : Below w.heap.size w w') : KeepX X w w' := ⟨h.size, fun k _ hk => h.block k hk⟩
theorem reads_keep {X : Nat → Prop} {w w' : World} {A : Option Addr} {n size : Nat} {xs : List Value} (h : Reads w w.heap.size size A n xs) (hk : KeepX X w w') (hX : n ≠ 0 → ∀ ad, A = some ad → X ad.block) : Reads w' w'.heap.size size A n xs :=
  ⟨h.1, fun h0 => by
    obtain ⟨ad, e, hb, hc⟩ := h.2 h0
    refine ⟨ad, e, Nat.lt_of_lt_of_le hb hk.1, fun j u hu => ?_⟩
    rw [← hc j u hu]
    exact World.cell?_of_block (w := w) (by rw [block_of_add]; exact hk.2 _ (hX (by omega) ad e) hb)⟩
theorem BytesX.keep {X : Nat → Prop} {w w' : World} {A : Option Addr} {c : Nat} {b : List UInt8} (h : BytesX X w A c b) (hk : KeepX X w w') : BytesX X w' A c b := ⟨reads_keep h.rd hk (fun h0 ad e => (h.inX h0 ad e).1), h.cap, h.long, fun h0 ad e => ⟨(h.inX h0 ad e).1, Nat.lt_of_lt_of_le (h.inX h0 ad e).2 hk.1⟩⟩
theorem BytesX.mono {X Y : Nat → Prop} {w : World} {A : Option Addr} {c : Nat} {b : List UInt8} (h : BytesX X w A c b) (hX : ∀ k, X k → Y k) : BytesX Y w A c b := ⟨h.rd, h.cap, h.long, fun h0 ad e => ⟨hX _ (h.inX h0 ad e).1, (h.inX h0 ad e).2⟩⟩
/-- A list of pages. -/
def SrcAt (X : Nat → Prop) (w : World) (v : Value) (src : List (List UInt8)) : Prop := ∃ A c, ∃ ps : List Pt, v = .iface 66 (.agg #[.slice A ps.length c]) ∧ src = ps.map Pt.b ∧ Reads w w.heap.size 1 A ps.length (ps.map Pt.val) ∧ ps.length ≤ 3000000 ∧ (ps.length ≠ 0 → ∀ ad, A = some ad → X ad.block ∧ ad.block < w.heap.size) ∧ ∀ p ∈ ps, BytesX X w p.A p.c p.b
theorem SrcAt.keep {X : Nat → Prop} {w w' : World} {v : Value} {src : List (List UInt8)} (h : SrcAt X w v src) (hk : KeepX X w w') : SrcAt X w' v src := by
  obtain ⟨A, c, ps, e1, e2, h1, h0, h2, h3⟩ := h
  exact ⟨A, c, ps, e1, e2, reads_keep h1 hk (fun hn ad e => (h2 hn ad e).1), h0, fun hn ad e => ⟨(h2 hn ad e).1, Nat.lt_of_lt_of_le (h2 hn ad e).2 hk.1⟩, fun p hp => (h3 p hp).keep hk⟩
theorem SrcAt.mono {X Y : Nat → Prop} {w : World} {v : Value} {src : List (List UInt8)} (h : SrcAt X w v src) (hX : ∀ k, X k → Y k) : SrcAt Y w v src := by
  obtain ⟨A, c, ps, e1, e2, h1, h0, h2, h3⟩ := h
  exact ⟨A, c, ps, e1, e2, h1, h0, fun hn ad e => ⟨hX _ (h2 hn ad e).1, (h2 hn ad e).2⟩, fun p hp => (h3 p hp).mono hX⟩
structure TXo (X : Nat → Prop) (w : World) (T M : Nat) (O : List KE) (ck : Nat) (src : Value) (t : PT) : Prop where
  ne : T ≠ M
  xT : X T
  xM : X M
  blk : Blk w T 95 (txCs src M t)
  map : w.heap[M]? = some (.map (O.map KE.ent).toArray ck)
  clk : (∀ e ∈ O, e.born < ck) ∧ (O.map KE.born).Nodup
  over : t.over = O.map fun e => (e.nm, e.b)
  page : ∀ e ∈ O, BytesX (fun k => X k ∧ k ≠ T ∧ k ≠ M) w e.A e.cap e.b ∧ e.b.length = 256
  src : SrcAt (fun k => X k ∧ k ≠ T ∧ k ≠ M) w src t.src
def TX (X : Nat → Prop) (w : World) (T M : Nat) (t : PT) : Prop := ∃ O ck src, TXo X w T M O ck src t
theorem TXo.lt {X : Nat → Prop} {w : World} {T M : Nat} {O : List KE} {ck : Nat} {src : Value} {t : PT} (h : TXo X w T M O ck src t) : T < w.heap.size ∧ M < w.heap.size := ⟨h.blk.lt, (Array.getElem?_eq_some_iff.1 h.map).1⟩
theorem TXo.keep {X : Nat → Prop} {w w' : World} {T M : Nat} {O : List KE} {ck : Nat} {src : Value} {t : PT} (h : TXo X w T M O ck src t) (hk : KeepX X w w') : TXo X w' T M O ck src t :=
  have hk2 : KeepX (fun k => X k ∧ k ≠ T ∧ k ≠ M) w w' := ⟨hk.1, fun k hx hl => hk.2 k hx.1 hl⟩
  ⟨h.ne, h.xT, h.xM, (hk.2 T h.xT h.lt.1).trans h.blk, (hk.2 M h.xM h.lt.2).trans h.map, h.clk, h.over, fun e he => ⟨(h.page e he).1.keep hk2, (h.page e he).2⟩, h.src.keep hk2⟩
theorem TXo.mono {X Y : Nat → Prop} {w : World} {T M : Nat} {O : List KE} {ck : Nat} {src : Value} {t : PT} (h : TXo X w T M O ck src t) (hX : ∀ k, X k → Y k) : TXo Y w T M O ck src t :=
  ⟨h.ne, hX _ h.xT, hX _ h.xM, h.blk, h.map, h.clk, h.over, fun e he => ⟨(h.page e he).1.mono fun k hk => ⟨hX _ hk.1, hk.2⟩, (h.page e he).2⟩, h.src.mono fun k hk => ⟨hX _ hk.1, hk.2⟩⟩
theorem TX.keep {X : Nat → Prop} {w w' : World} {T M : Nat} {t : PT} (h : TX X w T M t) (hk : KeepX X w w') : TX X w' T M t := by
  obtain ⟨O, ck, src, h⟩ := h
  exact ⟨O, ck, src, h.keep hk⟩
theorem TX.mono {X Y : Nat → Prop} {w : World} {T M : Nat} {t : PT} (h : TX X w T M t) (hX : ∀ k, X k → Y k) : TX Y w T M t := by
  obtain ⟨O, ck, src, h⟩ := h
  exact ⟨O, ck, src, h.mono hX⟩
theorem BytesX.cut {X : Nat → Prop} {w : World} {A : Option Addr} {c : Nat} {b : List UInt8} (h : BytesX X w A c b) : BytesX (fun k => X k ∧ k < w.heap.size) w A c b := ⟨h.rd, h.cap, h.long, fun h0 ad e => ⟨h.inX h0 ad e, (h.inX h0 ad e).2⟩⟩
/-- All that a transaction is lies in blocks that are there. -/
theorem TX.cut {X : Nat → Prop} {w : World} {T M : Nat} {t : PT} (h : TX X w T M t) : TX (fun k => X k ∧ k < w.heap.size) w T M t := by
  obtain ⟨O, ck, src, h⟩ := h
  obtain ⟨A, c, ps, e1, e2, h1, h0, h2, h3⟩ := h.src
  exact ⟨O, ck, src, h.ne, ⟨h.xT, h.lt.1⟩, ⟨h.xM, h.lt.2⟩, h.blk, h.map, h.clk, h.over, fun e he => ⟨(h.page e he).1.cut.mono fun k hk => ⟨⟨hk.1.1, hk.2⟩, hk.1.2⟩, (h.page e he).2⟩,
    A, c, ps, e1, e2, h1, h0, fun hn ad e => ⟨⟨⟨(h2 hn ad e).1.1, (h2 hn ad e).2⟩, (h2 hn ad e).1.2⟩, (h2 hn ad e).2⟩, fun p hp => (h3 p hp).cut.mono fun k hk => ⟨⟨hk.1.1, hk.2⟩, hk.1.2⟩⟩
/-- The block that is read is of cells. -/
theorem reads_isC {w : World} {B size n : Nat} {ad : Addr} {xs : List Value} (h : Reads w B size (some ad) n xs) (h0 : n ≠ 0) (hs : xs.length ≠ 0) : ∃ o : Obj, w.heap[ad.block]? = some o ∧ o.isCells = true := by
  obtain ⟨a, e, _, hc⟩ := h.2 (by omega)
  cases e
  obtain ⟨u, hu⟩ : ∃ u, xs[0]? = some u := ⟨_, List.getElem?_eq_getElem (by omega)⟩
  have c0 := hc 0 u hu
  unfold World.cell? at c0
  rw [block_of_add] at c0
  cases hb : w.heap[ad.block]? with
  | none => rw [hb] at c0; cases c0
  | some o =>
    rw [hb] at c0
    cases o with
    | cells c t f => exact ⟨_, rfl, rfl⟩
    | _ => cases c0
def isC (w : World) (k : Nat) : Prop := ∃ o : Obj, w.heap[k]? = some o ∧ o.isCells = true
theorem BytesX.cells {X : Nat → Prop} {w : World} {A : Option Addr} {c : Nat} {b : List UInt8} (h : BytesX X w A c b) : BytesX (fun k => X k ∧ isC w k) w A c b :=
  ⟨h.rd, h.cap, h.long, fun h0 ad e => ⟨⟨(h.inX h0 ad e).1, by subst e; exact reads_isC h.rd h0 (by simpa [bl] using h0)⟩, (h.inX h0 ad e).2⟩⟩
/-- All that a transaction is, but its map, lies in blocks of cells. -/
theorem TX.cells {X : Nat → Prop} {w : World} {T M : Nat} {t : PT} (h : TX X w T M t) : TX (fun k => X k ∧ (k = M ∨ isC w k)) w T M t := by
  obtain ⟨O, ck, src, h⟩ := h
  obtain ⟨A, c, ps, e1, e2, h1, h0, h2, h3⟩ := h.src
  exact ⟨O, ck, src, h.ne, ⟨h.xT, .inr ⟨_, h.blk, rfl⟩⟩, ⟨h.xM, .inl rfl⟩, h.blk, h.map, h.clk, h.over, fun e he => ⟨(h.page e he).1.cells.mono fun k hk => ⟨⟨hk.1.1, .inr hk.2⟩, hk.1.2⟩, (h.page e he).2⟩,
    A, c, ps, e1, e2, h1, h0, fun hn ad e => ⟨⟨⟨(h2 hn ad e).1.1, .inr (by subst e; exact reads_isC h1 hn (by simpa using hn))⟩, (h2 hn ad e).1.2⟩, (h2 hn ad e).2⟩, fun p hp => (h3 p hp).cells.mono fun k hk => ⟨⟨hk.1.1, .inr hk.2⟩, hk.1.2⟩⟩
/-- A cell of the transaction is written. -/
theorem TXo.set_ {X : Nat → Prop} {w : World} {T M : Nat} {O : List KE} {ck : Nat} {src : Value} {t : PT} (h : TXo X w T M O ck src t) (o : Nat) (u : Value) {t' : PT} (he : (txCs src M t).setIfInBounds o u = txCs src M t') (h1 : t'.over = t.over) (h2 : t'.src = t.src) :
    TXo X (w.setCell ⟨T, o, none⟩ u) T M O ck src t' := by
  have hk : KeepX (fun k => X k ∧ k ≠ T ∧ k ≠ M) w (w.setCell ⟨T, o, none⟩ u) := ⟨by simp [World.setCell], fun k hx _ => Below.heap_setCell w ⟨T, o, none⟩ u k hx.2.1⟩
  have hb := h.blk.set_ o u
  rw [he] at hb
  exact ⟨h.ne, h.xT, h.xM, hb, (Below.heap_setCell w ⟨T, o, none⟩ u M (fun e => h.ne e.symm)).trans h.map, h.clk, h1.trans h.over, fun e he => ⟨(h.page e he).1.keep hk, (h.page e he).2⟩, by rw [h2]; exact h.src.keep hk⟩
theorem over_look (n : Nat) : ∀ (O : List KE) (i : Nat), lookO n (O.map fun e => (e.nm, e.b)) = (look n O i).map fun r => r.2.b
  | [], _ => rfl
  | e :: O, i => by
    unfold look
    simp only [List.map_cons, lookO]
    by_cases h : e.nm = n
    · rw [if_pos h, if_pos h]; rfl
    · rw [if_neg h, if_neg h, over_look n O (i + 1)]
theorem over_put {y : KE} : ∀ {O : List KE} {i : Nat}, look y.nm O i = none → (O ++ [y]).map (fun e => (e.nm, e.b)) = setO y.nm y.b (O.map fun e => (e.nm, e.b))
  | [], _, _ => rfl
  | e :: O, i, h => by
    unfold look at h
    by_cases hn : e.nm = y.nm
    · rw [if_pos hn] at h; cases h
    · rw [if_neg hn] at h
      rw [List.cons_append, List.map_cons, List.map_cons, setO, if_neg hn, over_put h]
theorem over_set {y : KE} : ∀ {O : List KE} {i j : Nat} {x : KE}, look y.nm O i = some (j, x) → (O.set (j - i) y).map (fun e => (e.nm, e.b)) = setO y.nm y.b (O.map fun e => (e.nm, e.b))
  | e :: O, i, j, x, h => by
    have h0 := h
    unfold look at h
    by_cases hn : e.nm = y.nm
    · rw [if_pos hn] at h
      cases h
      rw [Nat.sub_self, List.set_cons_zero, List.map_cons, List.map_cons, setO, if_pos hn, hn]
    · rw [if_neg hn] at h
      have hs := (look_spec _ _ _ _ _ h).1
      rw [show j - i = (j - (i + 1)) + 1 by omega, List.set_cons_succ, List.map_cons, List.map_cons, setO, if_neg hn, over_set h]
end Go.Proofs.YtenfkghoolegfaaGreatDoor
set_option linter.unusedVariables false
namespace Go.Proofs.YtenfkghoolegfaaGreatDoor
open Go.RowKit
def withL (x : NX) (lsn : Nat) : NX := { x with lsn := lsn }
theorem withL_n (x : NX) (lsn : Nat) : (withL x lsn).n = { x.n with lsn := lsn } := rfl
theorem NodeAt.withL {w : World} {B : Nat} {x : NX} (h : NodeAt w B x) (lsn : Nat) : NodeAt w B (withL x lsn) := ⟨h.cells, h.data, h.fit, h.many, h.long⟩
/-- A page laid into the map. -/
theorem TXo.laid {X : Nat → Prop} {w w' : World} {T M : Nat} {O O' : List KE} {ck ck' : Nat} {src : Value} {t : PT} (h : TXo X w T M O ck src t) (hm : MapTo w w' M (O'.map KE.ent).toArray ck') {n : Nat} {b : List UInt8} (hc : (∀ e ∈ O', e.born < ck') ∧ (O'.map KE.born).Nodup) (ho : O'.map (fun e => (e.nm, e.b)) = setO n b t.over)
    (hp : ∀ e ∈ O', BytesX (fun k => X k ∧ k ≠ T ∧ k ≠ M) w e.A e.cap e.b ∧ e.b.length = 256) : TXo X w' T M O' ck' src { t with over := setO n b t.over } := by
  have hk : KeepX (fun k => X k ∧ k ≠ T ∧ k ≠ M) w w' := ⟨by rw [hm.size]; exact Nat.le_refl _, fun k hx _ => hm.block k hx.2.2⟩
  exact ⟨h.ne, h.xT, h.xM, (hm.block T h.ne).trans h.blk, hm.map, hc, ho.symm, fun e he => ⟨(hp e he).1.keep hk, (hp e he).2⟩, h.src.keep hk⟩
theorem clk_put {O : List KE} {ck : Nat} {y : KE} (h : (∀ e ∈ O, e.born < ck) ∧ (O.map KE.born).Nodup) (hy : y.born = ck) : (∀ e ∈ O ++ [y], e.born < ck + 1) ∧ ((O ++ [y]).map KE.born).Nodup := by
  refine ⟨fun e he => ?_, ?_⟩
  · rcases List.mem_append.1 he with he | he
    · have := h.1 e he; omega
    · obtain rfl := List.mem_singleton.1 he; omega
  · rw [List.map_append, List.nodup_append]
    refine ⟨h.2, by simp, fun a ha b hb e => ?_⟩
    obtain ⟨x, hx, rfl⟩ := List.mem_map.1 ha
    simp only [List.map_cons, List.map_nil, List.mem_singleton] at hb
    have := h.1 x hx
    omega
theorem clk_set {O : List KE} {ck j n : Nat} {x y : KE} (h : (∀ e ∈ O, e.born < ck) ∧ (O.map KE.born).Nodup) (hl : look n O 0 = some (j, x)) (hy : y.born = x.born) : (∀ e ∈ O.set j y, e.born < ck) ∧ ((O.set j y).map KE.born).Nodup := by
  obtain ⟨_, hj, _⟩ := look_spec _ _ _ _ _ hl
  simp only [Nat.sub_zero] at hj
  refine ⟨fun e he => ?_, ?_⟩
  · rcases List.mem_or_eq_of_mem_set he with he | rfl
    · exact h.1 e he
    · rw [hy]; exact h.1 x (List.mem_of_getElem? hj)
  · have e : (O.set j y).map KE.born = O.map KE.born := by
      rw [List.map_set, hy]
      apply List.ext_getElem?
      intro k
      rw [List.getElem?_set]
      by_cases hk : j = k
      · subst hk
        rw [List.getElem?_map, hj]
        simp [(List.getElem?_eq_some_iff.1 hj).1]
      · simp [hk]
    rw [e]
    exact h.2
theorem new_bytes {X : Nat → Prop} {w0 w : World} {T M base : Nat} {A : Option Addr} {c : Nat} {b : List UInt8} (ho : w.ownsRow base 5 1 (.slice A 256 c) 256 (bl b)) (hl : b.length = 256) (h : T < w0.heap.size ∧ M < w0.heap.size) (hb : w0.heap.size ≤ base) : BytesX (fun k => moreX X w0 k ∧ k ≠ T ∧ k ≠ M) w A c b := by
  obtain ⟨g, c', e, hc, hg, hr⟩ := own_big ho (by omega)
  simp only [Value.slice.injEq] at e
  obtain ⟨rfl, _, rfl⟩ := e
  refine ⟨by rw [hl]; exact hr, by omega, by omega, fun _ ad had => ?_⟩
  cases had
  have hlt := hr.2 (by omega)
  obtain ⟨ad, e, hlt, _⟩ := hlt
  cases e
  exact ⟨⟨.inr (by show w0.heap.size ≤ g; omega), by show g ≠ T; omega, by show g ≠ M; omega⟩, hlt⟩
theorem pages_or {X : Nat → Prop} {w : World} {T M : Nat} {O O' : List KE} {ck : Nat} {src : Value} {t : PT} {y : KE} (h : TXo X w T M O ck src t) (hy : BytesX (fun k => X k ∧ k ≠ T ∧ k ≠ M) w y.A y.cap y.b) (hy2 : y.b.length = 256) (hO : ∀ e ∈ O', e ∈ O ∨ e = y) : ∀ e ∈ O', BytesX (fun k => X k ∧ k ≠ T ∧ k ≠ M) w e.A e.cap e.b ∧ e.b.length = 256 := by
  intro e he
  rcases hO e he with h1 | rfl
  · exact h.page e h1
  · exact ⟨hy, hy2⟩
theorem set_frX {X : Nat → Prop} {w : World} {T o : Nat} {u : Value} (hX : X T) : Fr X w (w.setCell ⟨T, o, none⟩ u) := ⟨rfl, rfl, rfl, by simp [World.setCell], fun k _ hk => Below.heap_setCell w ⟨T, o, none⟩ u k (fun e => hk (by rw [e]; exact hX))⟩
set_option maxHeartbeats 4000000 in
set_option maxRecDepth 1000000 in
theorem lay_any {X : Nat → Prop} {w : World} {T M : Nat} {t : PT} (h : TX X w T M t) (n : Nat) (x : NX) (hx : NodeAt w w.heap.size x) (hf : (withL x t.lsn).n.Fit) :
    Calls Tryz.prog 43 #[.pointer (some ⟨T, 0, none⟩), .int .u32 (n : Nat), x.val] w fun e w' => e = .returned (.int .i64 (layE t x.n)) ∧ TX (moreX X w) w' T M (layT t n x.n) ∧ Fr X w w' := by
  obtain ⟨O, ck, src, h⟩ := h
  obtain ⟨w1, hw1⟩ : ∃ w1, w1 = w.alloc (.cells (withL x t.lsn).cells 52) := ⟨_, rfl⟩
  have hb0 : Below w.heap.size w (w.alloc (.cells x.cells 52)) := (Below.refl _ w).alloc (Nat.le_refl _) _
  have hT0 := ((h.blk.below hb0 h.lt.1).cell 1)
  have hb1 : Below w.heap.size w w1 := by rw [hw1]; exact (Below.refl _ w).alloc (Nat.le_refl _) _
  have hN : Blk w1 w.heap.size 52 (withL x t.lsn).cells := by rw [hw1]; exact Blk.new _ _ _
  have h1 := h.keep (KeepX.of_below hb1)
  have hP := Put_any (withL x t.lsn) w1 (((hx.withL t.lsn).below hb1).mono hb1.size) (Nat.le_refl _) hf
  rw [show putE (withL x t.lsn).n = layE t x.n from rfl] at hP
  have HLT : layT t n x.n = if layE t x.n = 0 then { t with over := setO n (putP (withL x t.lsn).n) t.over, changed := true } else t := rfl
  obtain ⟨er, HER⟩ : ∃ e, Hid (layE t x.n = e) := ⟨_, Lib.hid rfl⟩
  obtain ⟨bp, HBP⟩ : ∃ e, Hid (putP (withL x t.lsn).n = e) := ⟨_, Lib.hid rfl⟩
  rw [HER.out] at hP HLT ⊢
  rw [HBP.out] at hP HLT
  rw [HLT]
  have hTW : Hid (∀ W, Below w1.heap.size w1 W → W.cell? ⟨T, 6, none⟩ = some (.map (some M))) := Lib.hid fun W hW => (h1.blk.below hW h1.lt.1).cell 6
  unfold NX.val nodeV NX.cells withL at *
  dsimp only at hP hN hw1
  have HW1 := Lib.hid hw1
  have HN := Lib.hid hN
  have HP := Lib.hid hP
  have HH := Lib.hid (And.intro h1 hx)
  have hT1 : (txCs src M t)[1]? = some (.int .u64 (t.lsn : Nat)) := rfl
  rw [hT1] at hT0
  have HLT2 := Lib.hid h.lt
  clear hw1 hN hP h hx hT1
  by_cases he : er = 0
  · subst he
    rw [if_pos rfl]
    cases hlk : look n O 0 with
    | none =>
      have HLK := Lib.hid hlk
      clear hlk
      go_enter Tryz.func43, Tryz.ntmps43
      go_wp2_with (first
        | (rw [← HW1.out]; refine wpList_load_row rfl 52 (.tmp 5) rfl w.heap.size rfl _ _ _ _ HN.out Tryz.underlying52 rfl (by kernel_rfl) ?_)
        | (go_at_call 80; refine HP.out.mono ?_; rintro e w3 ⟨A, m, c, rfl, ho0, hb3⟩; obtain ⟨rfl, ho⟩ := ho0 rfl; clear ho0; have hT3 := hTW.out _ hb3; have h3 := (HH.out.1.keep (KeepX.of_below hb3)).mono (Y := moreX X w) (fun k hk => .inl hk); have hl256 : bp.length = 256 := (bl_len bp).symm.trans ho.1; have hnew : BytesX (fun k => moreX X w k ∧ k ≠ T ∧ k ≠ M) w3 A c bp := new_bytes ho hl256 HLT2.out hb1.size; have hpg := fun (O' : List KE) => pages_or (O' := O') (y := ⟨n, A, c, bp, ck⟩) h3 hnew hl256)
        | (refine wpList_put rfl (.tmp 24) (.tmp 25) (.tmp 26) rfl (y := ⟨n, A, c, bp, ck⟩) rfl rfl (by show Value.slice A 256 c = Value.slice A bp.length c; rw [hl256]) h3.map HLK.out rfl ?_; intro w4 hm4; have h4 := h3.laid hm4 (b := bp) (clk_put h3.clk rfl) (by rw [over_put (y := ⟨n, A, c, bp, ck⟩) HLK.out, ← h3.over]) (hpg _ (fun e he => by rcases List.mem_append.1 he with he | he; exact .inl he; exact .inr (List.mem_singleton.1 he))); have f7 : w4.cell? ⟨T, 7, none⟩ = some (.bool t.changed) := h4.blk.cell 7; have f7f := h4.blk.frozen 7))
      go_ret
      have hb := hb1.trans (hb3.mono hb1.size)
      have h5 := h4.set_ 7 (.bool true) (t' := { t with over := setO n bp t.over, changed := true }) rfl rfl rfl
      refine ⟨rfl, ⟨_, _, src, h5⟩, ?_⟩
      exact (Fr.of_below (X := X) hb).trans ((hm4.frX (X := X) (Fr.refl _ _) (.inr HH.out.1.xM)).trans (set_frX HH.out.1.xT))
    | some r =>
      obtain ⟨j, y0⟩ := r
      have HLK := Lib.hid hlk
      clear hlk
      go_enter Tryz.func43, Tryz.ntmps43
      go_wp2_with (first
        | (rw [← HW1.out]; refine wpList_load_row rfl 52 (.tmp 5) rfl w.heap.size rfl _ _ _ _ HN.out Tryz.underlying52 rfl (by kernel_rfl) ?_)
        | (go_at_call 80; refine HP.out.mono ?_; rintro e w3 ⟨A, m, c, rfl, ho0, hb3⟩; obtain ⟨rfl, ho⟩ := ho0 rfl; clear ho0; have hT3 := hTW.out _ hb3; have h3 := (HH.out.1.keep (KeepX.of_below hb3)).mono (Y := moreX X w) (fun k hk => .inl hk); have hl256 : bp.length = 256 := (bl_len bp).symm.trans ho.1; have hnew : BytesX (fun k => moreX X w k ∧ k ≠ T ∧ k ≠ M) w3 A c bp := new_bytes ho hl256 HLT2.out hb1.size; have hpg := fun (O' : List KE) => pages_or (O' := O') (y := ⟨n, A, c, bp, y0.born⟩) h3 hnew hl256)
        | (refine wpList_set rfl (.tmp 24) (.tmp 25) (.tmp 26) rfl (y := ⟨n, A, c, bp, y0.born⟩) rfl rfl (by show Value.slice A 256 c = Value.slice A bp.length c; rw [hl256]) h3.map HLK.out rfl ?_; intro w4 hm4; have h4 := h3.laid hm4 (b := bp) (clk_set h3.clk HLK.out rfl) (by have := over_set (y := ⟨n, A, c, bp, y0.born⟩) HLK.out; rw [Nat.sub_zero] at this; rw [this, ← h3.over]) (hpg _ (fun e he => List.mem_or_eq_of_mem_set he)); have f7 : w4.cell? ⟨T, 7, none⟩ = some (.bool t.changed) := h4.blk.cell 7; have f7f := h4.blk.frozen 7))
      go_ret
      have hb := hb1.trans (hb3.mono hb1.size)
      have h5 := h4.set_ 7 (.bool true) (t' := { t with over := setO n bp t.over, changed := true }) rfl rfl rfl
      refine ⟨rfl, ⟨_, _, src, h5⟩, ?_⟩
      exact (Fr.of_below (X := X) hb).trans ((hm4.frX (X := X) (Fr.refl _ _) (.inr HH.out.1.xM)).trans (set_frX HH.out.1.xT))
  · have d1 : (er == 0) = false := by simpa using he
    rw [if_neg he]
    go_enter Tryz.func43, Tryz.ntmps43
    go_wp2_with (first
      | (rw [← HW1.out]; refine wpList_load_row rfl 52 (.tmp 5) rfl w.heap.size rfl _ _ _ _ HN.out Tryz.underlying52 rfl (by kernel_rfl) ?_)
      | (go_at_call 80; refine HP.out.mono ?_; rintro e w3 ⟨A, m, c, rfl, _, hb3⟩))
    go_ret
    have hb := hb1.trans (hb3.mono hb1.size)
    exact ⟨rfl, ⟨O, ck, src, (HH.out.1.keep (KeepX.of_below hb3)).mono fun k hk => .inl hk⟩, Fr.of_below hb⟩
end Go.Proofs.YtenfkghoolegfaaGreatDoor
set_option linter.unusedVariables false
namespace Go.Proofs.YtenfkghoolegfaaGreatDoor
open Go.RowKit
set_option maxHeartbeats 2000000 in
set_option maxRecDepth 100000 in
theorem isPage_any {X : Nat → Prop} {w : World} {T M : Nat} {t : PT} (h : TX X w T M t) (n : Nat) :
    Calls Tryz.prog 53 #[.pointer (some ⟨T, 0, none⟩), .int .u32 (n : Nat)] w fun e w' => e = .returned (.int .i64 (isPageT t n)) ∧ w' = w := by
  obtain ⟨O, ck, src, h⟩ := h
  have f3 : w.cell? ⟨T, 3, none⟩ = some (.int .u32 (t.pages : Nat)) := h.blk.cell 3
  by_cases h0 : n = 0
  · have e : isPageT t n = 2 := by unfold isPageT; rw [if_pos (.inl h0)]
    rw [e]
    subst h0
    go_enter Tryz.func53, Tryz.ntmps53
    go_wp2
    go_ret
    exact ⟨rfl, rfl⟩
  · have z0 : ((n : Int) == 0) = false := by simpa using h0
    by_cases h1 : t.pages ≤ n
    · have e : isPageT t n = 2 := by unfold isPageT; rw [if_pos (.inr h1)]
      rw [e]
      have d1 : decide ((t.pages : Int) ≤ (n : Int)) = true := decide_eq_true (by omega)
      have d2 : decide (t.pages ≤ n) = true := decide_eq_true h1
      go_enter Tryz.func53, Tryz.ntmps53
      go_wp2
      go_ret
      exact ⟨rfl, rfl⟩
    · have e : isPageT t n = 0 := by unfold isPageT; rw [if_neg (by rintro (h | h); exact h0 h; exact h1 h)]
      rw [e]
      have d1 : decide ((t.pages : Int) ≤ (n : Int)) = false := decide_eq_false (by omega)
      have d2 : decide (t.pages ≤ n) = false := decide_eq_false h1
      go_enter Tryz.func53, Tryz.ntmps53
      go_wp2
      go_ret
      exact ⟨rfl, rfl⟩
/-- An error, with what was done and of which name. -/
def ErrV (B : Nat) (w : World) (op nm : ByteArray) (k : Int) (v : Value) : Prop :=
  (k = 0 ∧ v = .nilIface) ∨ (k ≠ 0 ∧ ∃ r, v = .iface 134 (.pointer (some ⟨r, 0, none⟩)) ∧ B ≤ r ∧ w.heap[r]? = some (.cells #[.string op, .string nm, .iface 80 (.int .i64 k)] 138 (0, 0)))
theorem ErrV.below {B B' : Nat} {w w' : World} {op nm : ByteArray} {k : Int} {v : Value} (h : ErrV B w op nm k v) (hb : Below w.heap.size w w') : ErrV B w' op nm k v := by
  rcases h with h | ⟨h1, r, e, hB, hr⟩
  · exact .inl h
  · exact .inr ⟨h1, r, e, hB, (hb.block r (Array.getElem?_eq_some_iff.1 hr).1).trans hr⟩
theorem ErrV.lo {B B' : Nat} {w : World} {op nm : ByteArray} {k : Int} {v : Value} (h : ErrV B w op nm k v) (hb : B' ≤ B) : ErrV B' w op nm k v :=
  h.imp id fun ⟨h1, r, e, hB, hr⟩ => ⟨h1, r, e, Nat.le_trans hb hB, hr⟩
set_option maxHeartbeats 2000000 in
set_option maxRecDepth 100000 in
theorem fault_any (op nm : ByteArray) (k : Int) (w : World) : Calls Tryz.prog 51 #[.string op, .string nm, .int .i64 k] w fun e w' => ∃ v, e = .returned v ∧ ErrV w.heap.size w' op nm k v ∧ Below w.heap.size w w' := by
  by_cases h : k = 0
  · subst h
    go_enter Tryz.func51, Tryz.ntmps51
    go_wp2
    go_ret
    exact ⟨_, rfl, .inl ⟨rfl, rfl⟩, Below.refl _ _⟩
  · have k0 : (k == 0) = false := by simpa using h
    go_enter Tryz.func51, Tryz.ntmps51
    go_wp2
    go_ret
    exact ⟨_, rfl, .inr ⟨h, w.heap.size, rfl, Nat.le_refl _, heap_alloc_new _ _⟩, (Below.refl _ _).alloc (Nat.le_refl _) _⟩
end Go.Proofs.YtenfkghoolegfaaGreatDoor
set_option linter.unusedVariables false
namespace Go.Proofs.YtenfkghoolegfaaGreatDoor
open Go.RowKit
set_option maxHeartbeats 2000000 in
set_option maxRecDepth 100000 in
theorem bytes_over {X : Nat → Prop} {w : World} {T M : Nat} {t : PT} (h : TX X w T M t) (n : Nat) (b : List UInt8) (hn : n < t.pages) (hl : lookO n t.over = some b) :
    Calls Tryz.prog 65 #[.pointer (some ⟨T, 0, none⟩), .int .u32 (n : Nat)] w fun e w' => b.length = 256 ∧ ∃ A c, e = .returned (.tuple #[.slice A 256 c, .int .i64 0]) ∧ w'.ownsRow w.heap.size 5 1 (.slice A 256 c) 256 (bl b) ∧ Below w.heap.size w w' := by
  obtain ⟨O, ck, src, h⟩ := h
  have f3 : w.cell? ⟨T, 3, none⟩ = some (.int .u32 (t.pages : Nat)) := h.blk.cell 3
  have f6 : w.cell? ⟨T, 6, none⟩ = some (.map (some M)) := h.blk.cell 6
  rw [h.over, over_look n O 0] at hl
  cases hk : look n O 0 with
  | none => rw [hk] at hl; cases hl
  | some r =>
    obtain ⟨j, y⟩ := r
    rw [hk] at hl
    simp only [Option.map_some, Option.some.injEq] at hl
    subst hl
    obtain ⟨_, hj, hnm⟩ := look_spec _ _ _ _ _ hk
    obtain ⟨hby, h256⟩ := h.page y (List.mem_of_getElem? hj)
    obtain ⟨a, ha, _⟩ := hby.rd.2 (by omega)
    have hrd := hby.rd
    rw [ha, h256] at hrd
    have hC := BClone_some a y.cap (bl y.b) (bl_one _) w hrd (Nat.le_refl _) (by omega)
    have d1 : decide ((t.pages : Int) ≤ (n : Int)) = false := decide_eq_false (by omega)
    have d2 : decide (t.pages ≤ n) = false := decide_eq_false (by omega)
    have HH := Lib.hid (And.intro h hk)
    have hyv : y.val = .slice (some a) 256 y.cap := by unfold KE.val; rw [ha, h256]
    have H256 := Lib.hid h256
    clear h hk hrd hby hj hnm h256 ha
    go_enter Tryz.func65, Tryz.ntmps65
    go_wp2_with (first
      | (refine wpList_look_some rfl (.tmp 15) (.tmp 16) rfl rfl rfl HH.out.1.map HH.out.2 ?_; rw [hyv])
      | (go_at_call 68; refine hC.mono ?_; rintro e w3 ⟨A', c', rfl, ho3, hb3⟩))
    go_ret2
    exact ⟨H256.out, A', c', rfl, ho3, hb3⟩
end Go.Proofs.YtenfkghoolegfaaGreatDoor
namespace Go.Proofs.YtenfkghoolegfaaGreatDoor
open Go.Shelf Go.RowKit Go.Sort Go.Lib
/-- The new block's bytes from its head on are a row of zeros. -/
theorem holds_zero0 (w : World) (T : TypeId) (nd : Nat) (hs : nd ≤ 24) : Holds (fun (b : UInt8) => Value.int .u8 (b.toNat : Int)) (w.alloc (.cells zeros24 T)) w.heap.size 0 (Array.replicate nd (0 : UInt8)) := fun j hj => by
  have hj' : j < nd := by simpa using hj
  refine ⟨?_, World.frozen?_alloc_new _ _ _ _⟩
  rw [World.cell?_alloc_new, zeros24_at _ (by omega), getElem!_pos _ j hj]
  simp
theorem fin_pos0 (w : World) (o : Obj) (dk : Array UInt8) (k : Nat) : ∃ os, (putRow (fun (b : UInt8) => Value.int .u8 (b.toNat : Int)) (w.alloc o) w.heap.size 0 dk).drewN k = grow (w.drewN k) os := by
  rw [alloc_eq_grow]
  obtain ⟨os', _, e⟩ := putRow_grow_new (fun (b : UInt8) => Value.int .u8 (b.toNat : Int)) w #[o] w.heap.size 0 dk (Nat.le_refl _)
  exact ⟨os', by rw [e]; rfl⟩
set_option maxHeartbeats 6400000 in
set_option maxRecDepth 100000 in
theorem fmtUint_in (u : Nat) (hu64 : u < 18446744073709551616) (w : World) (htab : PowAt w) :
    Calls Tryz.prog 107 #[.int .u64 u, .int .i64 10] w fun e w' => e = .returned (.string ⟨(Lib.decDigits u).toArray⟩) ∧ Below w.heap.size w w' := by
  have e192 : ∀ args w, (callFunc 151 args).run Tryz.prog w = .ok (.enter 151 args) w := enters_of Tryz.func151 (by kernel_rfl) rfl
  have e193 : ∀ args w, (callFunc 152 args).run Tryz.prog w = .ok (.enter 152 args) w := enters_of Tryz.func152 (by kernel_rfl) rfl
  have e194 : ∀ args w, (callFunc 153 args).run Tryz.prog w = .ok (.enter 153 args) w := enters_of Tryz.func153 (by kernel_rfl) rfl
  by_cases hs : u < 100
  · go_enter Tryz.func107, Tryz.ntmps107
    go_wp2_with (go_at_call 151; refine (Tryz.internal_strconv_small u hs _).mono ?_; rintro e w' ⟨rfl, rfl⟩)
    go_ret
    exact ⟨rfl, Below.refl _ _⟩
  · have hu1 : 1 ≤ u := by omega
    have hnd20 : Lib.nDigits u ≤ 20 := by have := Lib.numDigits_eq u hu1 hu64; split at this <;> omega
    have hb3 : Lib.nDigits u ≤ 23 := by omega
    have hal : Tryz.prog.arrayLen 244 = 24 := by simp [Program.arrayLen, Tryz.underlying244]
    have hsl1 : ∀ W, (Instr.sliceAt 244 (.pointer (some ⟨w.heap.size, 0, none⟩)) none (some (.int .i64 (Lib.nDigits u : Int))) none).run Tryz.prog W = .ok (.slice (some ⟨w.heap.size, 0, none⟩) (Lib.nDigits u) 24) W := fun W => by
      rw [run_sliceAt_array_h W 244 ⟨w.heap.size, 0, none⟩ (by simp [Program.arrayLen, Program.elem, Tryz.underlying244]) .i64 (Lib.nDigits u : Int) (by omega) (by rw [hal]; omega)]
      go_simp
    have hH0 := holds_zero0 w 244 (Lib.nDigits u) (by omega)
    have hfmt := Tryz.internal_strconv_formatBase10 w.heap.size 0 24 u (Array.replicate (Lib.nDigits u) 0) (w.alloc (.cells Lib.zeros24 244)) hH0 (by rw [Array.size_replicate]; exact Lib.lt_pow_nDigits u) hu64 (by rw [Array.size_replicate]; omega)
    rw [Array.size_replicate] at hfmt
    have HH0 := Lib.hid hH0
    clear hH0 hal
    go_enter Tryz.func107, Tryz.ntmps107
    go_wp2_with (first
      | (go_at_call 152; refine (Tryz.internal_strconv_numDigits u hu1 hu64 _ (htab.of fun hl => Below.heap_alloc _ _ _ hl)).mono ?_; rintro e w' ⟨rfl, rfl⟩))
    go_at_call 153
    refine hfmt.mono ?_
    rintro e w' ⟨rfl, k, v', dk, rfl, hF⟩
    have hcv : (convert 23 9 (.slice (some ⟨w.heap.size, 0, none⟩) (Lib.nDigits u) 24)).run Tryz.prog ((putRow (fun (b : UInt8) => Value.int .u8 (b.toNat : Int)) (w.alloc (.cells Lib.zeros24 244)) w.heap.size 0 dk).drewN k) = .ok (.string ⟨(Lib.decDigits u).toArray⟩) ((putRow (fun (b : UInt8) => Value.int .u8 (b.toNat : Int)) (w.alloc (.cells Lib.zeros24 244)) w.heap.size 0 dk).drewN k) := by
      have h := run_convert_bytes_back (P := Tryz.prog) ((putRow (fun (b : UInt8) => Value.int .u8 (b.toNat : Int)) (w.alloc (.cells Lib.zeros24 244)) w.heap.size 0 dk).drewN k) 23 9 5 ⟨w.heap.size, 0, none⟩ 24 (Lib.decDigits u) Tryz.underlying23 Tryz.underlying5 Tryz.underlying9 (fun j hj => by
        rw [Lib.row_is_numeral hF j hj, Lib.add_plain, World.cell?_drewN]
        exact cell?_putRow (fun (b : UInt8) => Value.int .u8 (b.toNat : Int)) _ w.heap.size 0 _ dk HH0.out (by rw [hF.size, Array.size_replicate]) j (by rw [hF.size]; rw [Lib.decDigits_length] at hj; exact hj))
      rw [Lib.decDigits_length] at h
      exact h
    go_wp2
    go_ret
    obtain ⟨os, eo⟩ := fin_pos0 w (.cells Lib.zeros24 244) dk k
    refine ⟨rfl, ?_⟩
    rw [eo]
    exact below_grow _ w (Nat.le_refl _) k os
set_option maxRecDepth 100000 in
theorem fmtUint (u : Nat) (hu64 : u < 18446744073709551616) (w : World) (htab : PowAt w) :
    Calls Tryz.prog 85 #[.int .u64 u, .int .i64 10] w fun e w' => e = .returned (.string ⟨(Lib.decDigits u).toArray⟩) ∧ Below w.heap.size w w' := by
  have e153 : ∀ args w, (callFunc 107 args).run Tryz.prog w = .ok (.enter 107 args) w := enters_of Tryz.func107 (by kernel_rfl) rfl
  go_enter Tryz.func85, Tryz.ntmps85
  go_wp2_with (go_at_call 107; refine (fmtUint_in u hu64 _ htab).mono ?_; rintro e w' ⟨rfl, hb⟩)
  go_ret
  exact ⟨rfl, hb⟩
end Go.Proofs.YtenfkghoolegfaaGreatDoor
set_option linter.unusedVariables false
namespace Go.Proofs.YtenfkghoolegfaaGreatDoor
open Go.RowKit
set_option maxHeartbeats 1000000 in
set_option maxRecDepth 100000 in
theorem digits_any (n : Nat) (hn : n < 4294967296) (w : World) (htab : PowAt w) : Calls Tryz.prog 54 #[.int .u32 (n : Nat)] w fun e w' => e = .returned (.string ⟨(Lib.decDigits n).toArray⟩) ∧ Below w.heap.size w w' := by
  have hwu : IntKind.u64.wrap (n : Int) = (n : Int) := by rw [IntKind.wrap_u64]; omega
  have hF := fmtUint n (by omega) w htab
  clear htab
  go_enter Tryz.func54, Tryz.ntmps54
  go_wp2_with (go_at_call 85; refine hF.mono ?_; rintro e w2 ⟨rfl, hb⟩)
  go_ret
  exact ⟨rfl, hb⟩
set_option maxHeartbeats 2000000 in
set_option maxRecDepth 1000000 in
theorem node_over {X : Nat → Prop} {w : World} {T M : Nat} {t : PT} (h : TX X w T M t) (n : Nat) (b : List UInt8) (hn : n < t.pages) (hl : lookO n t.over = some b) (hR : openE b = 0 → ReadC (kindB b) (lsnB b) (restB b)) {x : PN} (hg : getP b = .ok x) :
    Calls Tryz.prog 84 #[.pointer (some ⟨T, 0, none⟩), .int .u32 (n : Nat)] w fun e w' => ∃ y : NX, y.n = x ∧ e = .returned (.tuple #[y.val, .int .i64 0]) ∧ NodeAt w' w'.heap.size y ∧ NodeLo w.heap.size y ∧ Below w.heap.size w w' := by
  obtain ⟨w1, hw1⟩ : ∃ w1, w1 = w.alloc (.cells zeroCs 52) := ⟨_, rfl⟩
  have hb1 : Below w.heap.size w w1 := by rw [hw1]; exact (Below.refl _ w).alloc (Nat.le_refl _) _
  have hN1 : Blk w1 w.heap.size 52 zeroCs := by rw [hw1]; exact Blk.new _ _ _
  have hB := bytes_over (h.keep (KeepX.of_below hb1)) n b hn hl
  have HG : Hid (∀ (W : World) (A : Option Addr) (c : Nat), b.length = 256 → W.ownsRow w1.heap.size 5 1 (.slice A 256 c) 256 (bl b) → _) := Lib.hid fun W A c hb256 ho => Get_of (B := W.heap.size) A c b W (Nat.le_refl _) (by have := Reads.of_own ho; rwa [hb256]) (by have := own_big ho (by omega); obtain ⟨g, c', e, hc, _⟩ := this; simp only [Value.slice.injEq] at e; omega) hR
  have HX := Lib.hid hg
  unfold zeroCs at hw1 hN1
  have HW1 := Lib.hid hw1
  have HN1 := Lib.hid hN1
  clear hw1 hN1 h hg hR
  go_enter Tryz.func84, Tryz.ntmps84
  go_wp2_with (rw [← HW1.out]; go_at_call 65; refine hB.mono ?_; rintro e w2 ⟨hb256, A, c, rfl, ho, hb2⟩; have hG := HG.out _ _ _ hb256 ho; rw [hb256] at hG)
  go_at_call 69
  refine hG.mono ?_
  rintro e w3 ⟨hr, hb3⟩
  rw [HX.out] at hr
  obtain ⟨y, hy, rfl, hya, hylo⟩ := hr
  have hb23 : Below w1.heap.size w1 w3 := hb2.trans (hb3.mono hb2.size)
  have hN3 := HN1.out.below hb23 HN1.out.lt
  unfold NX.val nodeV
  go_wp2_with (refine wpList_store_row rfl 52 (.tmp 4) (.tmp 20) rfl w.heap.size _ rfl rfl 52 _ hN3 (by kernel_rfl) rfl (by simp [Value.oneCell']) ?_)
  refine bodyPost_ret (results_cell_tmp rfl _ _ w.heap.size 52 _ (0, 0) _ rfl (setRow_heap _ _ _ _ _ _ hN3) Tryz.underlying52 rfl (by kernel_rfl)) rfl ?_
  have hb4 := hb1.trans (hb23.mono hb1.size)
  have hlt : w.heap.size < w1.heap.size := HN1.out.lt
  refine ⟨y, hy, rfl, ?_, hylo.mono (Nat.le_trans hb1.size hb2.size), hb4.trans ((fr_setRow _ w.heap.size _).below (B := w.heap.size) hb4.size (fun k hk => by omega))⟩
  rw [size_setRow]
  exact hya.fr (fr_setRow _ _ _) (Nat.le_refl _) hylo (fun k hk => by have := hb2.size; omega)
end Go.Proofs.YtenfkghoolegfaaGreatDoor
set_option linter.unusedVariables false
namespace Go.Proofs.YtenfkghoolegfaaGreatDoor
open Go.RowKit
set_option maxHeartbeats 4000000 in
set_option maxRecDepth 1000000 in
theorem reuse_ok {X : Nat → Prop} {w : World} {T M : Nat} {t : PT} (h : TX X w T M t) (b : List UInt8) (hn : t.free < t.pages) (hl : lookO t.free t.over = some b) (hR : openE b = 0 → ReadC (kindB b) (lsnB b) (restB b)) {x : PN} (hg : getP b = .ok x) (hk : x.kind = 5) (hx : x.next < t.pages) :
    Calls Tryz.prog 52 #[.pointer (some ⟨T, 0, none⟩)] w fun e w' => e = .returned (.tuple #[.int .u32 (t.free : Nat), .int .i64 0]) ∧ TX (moreX X w) w' T M { t with free := x.next, changed := true } ∧ Fr X w w' := by
  have hN := node_over h t.free b hn hl hR hg
  obtain ⟨O, ck, src, h⟩ := h
  have f4 : w.cell? ⟨T, 4, none⟩ = some (.int .u32 (t.free : Nat)) := h.blk.cell 4
  have HX := Lib.hid (And.intro h (And.intro hk hx))
  clear h hl hR hg hk
  go_enter Tryz.func52, Tryz.ntmps52
  go_wp2_with (go_at_call 84; refine hN.mono ?_; rintro e w3 ⟨y, hy, rfl, _, _, hb3⟩; unfold NX.val nodeV)
  have hyk : y.kind = 5 := by have := HX.out.2.1; rw [← hy] at this; exact this
  have hyn : y.next = x.next := by rw [← hy]; rfl
  obtain ⟨W, hW⟩ : ∃ W, W = w3.alloc (.cells y.cells 52) := ⟨_, rfl⟩
  have hbW : Below w.heap.size w W := by rw [hW]; exact hb3.alloc hb3.size _
  have hBW : Blk W w3.heap.size 52 y.cells := by rw [hW]; exact Blk.new _ _ _
  have g0 : W.cell? ⟨w3.heap.size, 0, none⟩ = some (.int .i64 5) := (hBW.cell 0).trans (by rw [← hyk]; rfl)
  have g3 : W.cell? ⟨w3.heap.size, 3, none⟩ = some (.int .u32 (x.next : Nat)) := (hBW.cell 3).trans (by rw [← hyn]; rfl)
  have hTW := HX.out.1.keep (KeepX.of_below hbW)
  have p3 : W.cell? ⟨T, 3, none⟩ = some (.int .u32 (t.pages : Nat)) := hTW.blk.cell 3
  unfold NX.cells at hW
  rw [← hW]
  have d1 : decide ((t.pages : Int) ≤ (x.next : Int)) = false := decide_eq_false (by omega)
  have d2 : decide (t.pages ≤ x.next) = false := decide_eq_false (by omega)
  have z1 : ((5 : Int) != 5) = false := rfl
  clear hW hBW hN
  go_quiet (fail)
  obtain ⟨V, hV⟩ : ∃ V, W.drewN nq = V := ⟨_, rfl⟩
  have hbV : Below w.heap.size w V := by rw [← hV]; exact ⟨hbW.os, hbW.tape, hbW.output, hbW.size, hbW.block⟩
  have hTV := HX.out.1.keep (KeepX.of_below hbV)
  have g3' : V.cell? ⟨w3.heap.size, 3, none⟩ = some (.int .u32 (x.next : Nat)) := by rw [← hV]; exact g3
  have q4 : V.cell? ⟨T, 4, none⟩ = some (.int .u32 (t.free : Nat)) := hTV.blk.cell 4
  have q4f := hTV.blk.frozen 4
  have q7 : V.cell? ⟨T, 7, none⟩ = some (.bool t.changed) := hTV.blk.cell 7
  have q7f := hTV.blk.frozen 7
  rw [hV]
  clear hV g0 g3 p3 hTW
  have HTV := Lib.hid hTV
  clear hTV
  go_wp2
  go_ret2
  have h1 := HTV.out.set_ 4 (.int .u32 (x.next : Nat)) (t' := { t with free := x.next }) rfl rfl rfl
  have h2 := h1.set_ 7 (.bool true) (t' := { t with free := x.next, changed := true }) rfl rfl rfl
  refine ⟨rfl, ⟨O, ck, src, h2.mono fun k hk => .inl hk⟩, ?_⟩
  exact (Fr.of_below (X := X) hbV).trans ((set_frX HX.out.1.xT).trans (set_frX HX.out.1.xT))
end Go.Proofs.YtenfkghoolegfaaGreatDoor
set_option linter.unusedVariables false
namespace Go.Proofs.YtenfkghoolegfaaGreatDoor
open Go.RowKit
theorem ErrV.nil {B : Nat} {w : World} {op nm : ByteArray} {v : Value} (h : ErrV B w op nm 0 v) : v = .nilIface := by
  rcases h with ⟨_, h⟩ | ⟨h, _⟩
  · exact h
  · exact absurd rfl h
theorem powBelow {w w1 : World} (h : PowAt w) (hb : Below w.heap.size w w1) : PowAt w1 := h.of fun hl => hb.block 1 hl
theorem powFr {X : Nat → Prop} {w w1 : World} (h : PowAt w) (hf : Fr X w w1) (hX : ¬ X 1) : PowAt w1 := h.of fun hl => hf.block 1 hl hX
set_option maxHeartbeats 2000000 in
set_option maxRecDepth 1000000 in
theorem Alloc_new {X : Nat → Prop} {w : World} {T M : Nat} {t : PT} (h : TX X w T M t) (h0 : t.free = 0) (hp : t.pages < 512) :
    Calls Tryz.prog 17 #[.pointer (some ⟨T, 0, none⟩)] w fun e w' => e = .returned (.tuple #[.int .u32 (t.pages : Nat), .nilIface]) ∧ TX X w' T M { t with pages := t.pages + 1, changed := true } ∧ Fr X w w' := by
  obtain ⟨O, ck, src, h⟩ := h
  have f3 : w.cell? ⟨T, 3, none⟩ = some (.int .u32 (t.pages : Nat)) := h.blk.cell 3
  have f3f := h.blk.frozen 3
  have f4 : w.cell? ⟨T, 4, none⟩ = some (.int .u32 (t.free : Nat)) := h.blk.cell 4
  have f7 : w.cell? ⟨T, 7, none⟩ = some (.bool t.changed) := h.blk.cell 7
  have f7f := h.blk.frozen 7
  rw [h0] at f4
  have d1 : decide ((512 : Int) ≤ (t.pages : Int)) = false := decide_eq_false (by omega)
  have d2 : decide (512 ≤ t.pages) = false := decide_eq_false (by omega)
  have a1 : IntKind.u32.wrap ((t.pages : Int) + 1) = (t.pages : Int) + 1 := by rw [IntKind.wrap_u32]; omega
  have a2 : IntKind.u32.wrap ((t.pages : Int) + 1 - 1) = (t.pages : Int) := by rw [IntKind.wrap_u32]; omega
  have a3 : IntKind.u32.wrap (t.pages : Int) = (t.pages : Int) := by rw [IntKind.wrap_u32]; omega
  have HH := Lib.hid h
  clear h
  go_enter Tryz.func17, Tryz.ntmps17
  go_wp2
  go_ret2
  have h1 := HH.out.set_ 3 (.int .u32 ((t.pages : Int) + 1)) (t' := { t with pages := t.pages + 1 }) rfl rfl rfl
  have h2 := h1.set_ 7 (.bool true) (t' := { t with pages := t.pages + 1, changed := true }) rfl rfl rfl
  refine ⟨?_, ⟨O, ck, src, h2⟩, ?_⟩
  · first | rfl | simp
  · exact (set_frX HH.out.xT).trans (set_frX HH.out.xT)
set_option maxHeartbeats 2000000 in
set_option maxRecDepth 1000000 in
theorem Alloc_reuse {X : Nat → Prop} {w : World} {T M : Nat} {t : PT} (h : TX X w T M t) (h0 : t.free ≠ 0) (b : List UInt8) (hn : t.free < t.pages) (hl : lookO t.free t.over = some b) (hR : openE b = 0 → ReadC (kindB b) (lsnB b) (restB b)) {x : PN} (hg : getP b = .ok x) (hk : x.kind = 5) (hx : x.next < t.pages) :
    Calls Tryz.prog 17 #[.pointer (some ⟨T, 0, none⟩)] w fun e w' => e = .returned (.tuple #[.int .u32 (t.free : Nat), .nilIface]) ∧ TX (moreX X w) w' T M { t with free := x.next, changed := true } ∧ Fr X w w' := by
  have hRe := reuse_ok h b hn hl hR hg hk hx
  obtain ⟨O, ck, src, h⟩ := h
  have f4 : w.cell? ⟨T, 4, none⟩ = some (.int .u32 (t.free : Nat)) := h.blk.cell 4
  have z1 : ((t.free : Int) != 0) = true := by simpa using h0
  have hF := fun op nm W => fault_any op nm 0 W
  clear h hl hR hg hk hx
  go_enter Tryz.func17, Tryz.ntmps17
  go_wp2_with (first
    | (go_at_call 52; refine hRe.mono ?_; rintro e w3 ⟨rfl, hT3, hf3⟩)
    | (go_at_call 51; refine (hF _ _ _).mono ?_; rintro e w4 ⟨v, rfl, hv, hb4⟩; have hv := hv.nil; subst hv))
  go_ret2
  exact ⟨rfl, hT3.keep (KeepX.of_below hb4), hf3.trans (Fr.of_below hb4)⟩
set_option maxHeartbeats 2000000 in
set_option maxRecDepth 1000000 in
theorem Put_ok {X : Nat → Prop} {w : World} {T M : Nat} {t : PT} (h : TX X w T M t) (n : Nat) (hn : n < 4294967296) (x : NX) (hx : NodeAt w w.heap.size x) (hf : (withL x t.lsn).n.Fit) (hi : isPageT t n = 0) (hL : layE t x.n = 0) (htab : PowAt w) (hX : ¬ X 1) :
    Calls Tryz.prog 19 #[.pointer (some ⟨T, 0, none⟩), .int .u32 (n : Nat), x.val] w fun e w' => e = .returned .nilIface ∧ TX (moreX X w) w' T M (putT t n x.n) ∧ Fr X w w' := by
  obtain ⟨w1, hw1⟩ : ∃ w1, w1 = w.alloc (.cells x.cells 52) := ⟨_, rfl⟩
  have hb1 : Below w.heap.size w w1 := by rw [hw1]; exact (Below.refl _ w).alloc (Nat.le_refl _) _
  have hN1 : Blk w1 w.heap.size 52 x.cells := by rw [hw1]; exact Blk.new _ _ _
  have h1 := h.keep (KeepX.of_below hb1)
  have hI := isPage_any h1 n
  have hLy := lay_any h1 n x ((hx.below hb1).mono hb1.size) hf
  have hpt : putT t n x.n = layT t n x.n := by unfold putT; rw [hi]; rfl
  rw [hpt]
  rw [hi] at hI
  rw [hL] at hLy
  have hF := fun op nm W => fault_any op nm 0 W
  have hD := fun W hW => digits_any n hn W hW
  have ht1 := powBelow htab hb1
  unfold NX.val nodeV NX.cells at *
  have HW1 := Lib.hid hw1
  have HN1 := Lib.hid hN1
  have HLY := Lib.hid hLy
  clear hw1 hN1 h h1 hLy hx hf hpt hL
  go_enter Tryz.func19, Tryz.ntmps19
  go_wp2_with (first
    | (rw [← HW1.out]; go_at_call 53; refine hI.mono ?_; rintro e w2 ⟨rfl, h2⟩; have h2 := h2.symm; subst h2)
    | (refine wpList_load_row rfl 52 (.tmp 5) rfl w.heap.size rfl _ _ _ _ HN1.out Tryz.underlying52 rfl (by kernel_rfl) ?_)
    | (go_at_call 43; refine HLY.out.mono ?_; rintro e w3 ⟨rfl, hT3, hf3⟩; have ht3 := powFr ht1 hf3 hX)
    | (go_at_call 54; refine (hD _ ht3).mono ?_; rintro e w4 ⟨rfl, hb4⟩)
    | (go_at_call 51; refine (hF _ _ _).mono ?_; rintro e w5 ⟨v, rfl, hv, hb5⟩; have hv := hv.nil; subst hv))
  go_ret
  refine ⟨rfl, ?_, ?_⟩
  · exact ((hT3.keep (KeepX.of_below hb4)).keep (KeepX.of_below hb5)).mono fun k hk => hk.imp id fun h => Nat.le_trans hb1.size h
  · exact ((Fr.of_below (X := X) hb1).trans hf3).trans ((Fr.of_below hb4).trans (Fr.of_below hb5))
def freeX (next : Nat) : NX := ⟨5, 0, none, 0, [], next, none, 0, [], 0, 0, 0, 0⟩
theorem flat_at {w : World} {B : Nat} {x : NX} (h1 : x.l = []) (h2 : x.data = []) : NodeAt w B x :=
  have h0 : ∀ y, y ∉ x.l := fun y hy => by rw [h1] at hy; exact absurd hy (List.not_mem_nil)
  ⟨⟨.inl h1, fun y hy => absurd hy (h0 y), fun y hy => absurd hy (h0 y)⟩, by rw [h2]; exact ⟨rfl, fun h => absurd h (by simp)⟩, fun y hy => absurd hy (h0 y), by rw [h1]; exact Nat.zero_le _, by rw [h2]; exact Nat.zero_le _⟩
set_option maxHeartbeats 2000000 in
set_option maxRecDepth 1000000 in
theorem Free_ok {X : Nat → Prop} {w : World} {T M : Nat} {t : PT} (h : TX X w T M t) (ok : t.OK) (n : Nat) (hn : n < 4294967296) (hi : isPageT t n = 0) (htab : PowAt w) (hX : ¬ X 1) :
    Calls Tryz.prog 20 #[.pointer (some ⟨T, 0, none⟩), .int .u32 (n : Nat)] w fun e w' => e = .returned .nilIface ∧ TX (moreX X w) w' T M (freeT t n).2 ∧ Fr X w w' := by
  have hL : layE t (freeX t.free).n = 0 := freePg_put t.lsn t.free
  have hfr : (freeT t n).2 = { layT t n (freeN t) with free := n } := by
    unfold freeT
    rw [hi, if_neg (by simp), if_neg (by rw [show layE t (freeN t) = 0 from hL]; simp)]
  have h0 := ok.head
  have hI := isPage_any h n
  have hLy := lay_any h n (freeX t.free) (flat_at rfl rfl) (freePg_fit (next := t.free) ok.lsn (by omega))
  rw [hi] at hI
  rw [hL] at hLy
  rw [hfr]
  have hnn : (freeX t.free).n = freeN t := rfl
  rw [hnn] at hLy
  have f4 : w.cell? ⟨T, 4, none⟩ = some (.int .u32 (t.free : Nat)) := by obtain ⟨O, ck, src, h⟩ := h; exact h.blk.cell 4
  have hF := fun op nm W => fault_any op nm 0 W
  have hD := fun W hW => digits_any n hn W hW
  have hxT : X T := by obtain ⟨O, ck, src, h⟩ := h; exact h.xT
  unfold freeX NX.val nodeV at hLy
  dsimp only [List.length_nil] at hLy
  simp only [Int.natCast_zero] at hLy
  have HLY := Lib.hid hLy
  clear h hLy hL hfr ok h0
  go_enter Tryz.func20, Tryz.ntmps20
  go_wp2_with (first
    | (go_at_call 53; refine hI.mono ?_; rintro e w2 ⟨rfl, h2⟩; have h2 := h2.symm; subst h2)
    | (go_at_call 43; refine HLY.out.mono ?_; rintro e w3 ⟨rfl, ⟨O, ck, src, hT3⟩, hf3⟩; have ht3 := powFr htab hf3 hX; have g4 : w3.cell? ⟨T, 4, none⟩ = some (.int .u32 ((layT t n (freeN t)).free : Nat)) := hT3.blk.cell 4; have g4f := hT3.blk.frozen 4; have HT3 := Lib.hid hT3; have ht4 : PowAt (w3.setCell ⟨T, 4, none⟩ (.int .u32 (n : Nat))) := powFr ht3 (set_frX (X := X) hxT) hX; clear hT3)
    | (go_at_call 54; refine (hD _ ht4).mono ?_; rintro e w4 ⟨rfl, hb4⟩)
    | (go_at_call 51; refine (hF _ _ _).mono ?_; rintro e w5 ⟨v, rfl, hv, hb5⟩; have hv := hv.nil; subst hv))
  go_ret
  have h1 := HT3.out.set_ 4 (.int .u32 (n : Nat)) (t' := { layT t n (freeN t) with free := n }) rfl rfl rfl
  have h2 : TX (moreX X w) (w3.setCell ⟨T, 4, none⟩ (.int .u32 (n : Nat))) T M { layT t n (freeN t) with free := n } := ⟨O, ck, src, h1⟩
  exact ⟨rfl, (h2.keep (KeepX.of_below hb4)).keep (KeepX.of_below hb5), hf3.trans ((set_frX hxT).trans ((Fr.of_below hb4).trans (Fr.of_below hb5)))⟩
end Go.Proofs.YtenfkghoolegfaaGreatDoor
set_option linter.unusedVariables false
namespace Go.Proofs.YtenfkghoolegfaaGreatDoor
open Go.RowKit
def leafX : NX := ⟨3, 0, none, 0, [], 0, none, 0, [], 0, 0, 0, 0⟩
def fresh0 (lsn : Nat) : PT := ⟨[], lsn, 1, 2, 0, 0, [], false⟩
theorem leaf_put (lsn : Nat) : putE (freshN lsn) = 0 := by
  unfold putE
  have h : nodeOK (freshN lsn) = true := by unfold nodeOK plainOK freshN; simp [riseK]
  rw [h, if_neg (by simp), if_neg]
  rintro ⟨_, h2⟩
  unfold usedN freshN at h2
  simp at h2
theorem fresh_lay (lsn : Nat) : layE (fresh0 lsn) leafX.n = 0 ∧ layT (fresh0 lsn) 1 leafX.n = freshT lsn := by
  have h : layE (fresh0 lsn) leafX.n = 0 := leaf_put lsn
  refine ⟨h, ?_⟩
  unfold layT
  rw [if_pos h]
  rfl
set_option maxHeartbeats 2000000 in
set_option maxRecDepth 1000000 in
theorem Fresh_any (lsn : Nat) (hl : lsn < 18446744073709551616) (w : World) :
    Calls Tryz.prog 12 #[.int .u64 (lsn : Nat)] w fun e w' => ∃ T M, e = .returned (.pointer (some ⟨T, 0, none⟩)) ∧ TX (fun k => w.heap.size ≤ k) w' T M (freshT lsn) ∧ Below w.heap.size w w' := by
  have hmm := @run_makeMap Tryz.prog
  obtain ⟨w2, hw2⟩ : ∃ w2, w2 = (w.alloc (.map #[] 0)).alloc (.cells #[.iface 66 (.agg #[.slice none 0 0]), .int .u64 (lsn : Nat), .int .u32 1, .int .u32 2, .int .u32 0, .int .u64 0, .map (some w.heap.size), .bool false] 95) := ⟨_, rfl⟩
  have hba : Below w.heap.size w (w.alloc (.map #[] 0)) := (Below.refl _ w).alloc (Nat.le_refl _) _
  have hb2 : Below w.heap.size w w2 := by rw [hw2]; exact hba.alloc hba.size _
  have hT : TXo (fun k => w.heap.size ≤ k) w2 (w.heap.size + 1) w.heap.size [] 0 (.iface 66 (.agg #[.slice none 0 0])) (fresh0 lsn) := by
    refine ⟨by omega, by show w.heap.size ≤ _; omega, Nat.le_refl _, ?_, ?_, ⟨fun e he => absurd he (List.not_mem_nil), List.nodup_nil⟩, rfl, fun e he => absurd he (List.not_mem_nil), none, 0, [], rfl, rfl, Reads.none_, Nat.zero_le _, fun _ ad h => (by cases h), fun p hp => absurd hp (List.not_mem_nil)⟩
    · rw [hw2]
      exact blk_newH _ _ _ (by simp)
    · rw [hw2, Below.heap_alloc _ _ _ (by simp)]
      show (w.heap.push _)[w.heap.size]? = _
      simp
  have hLy := lay_any (X := fun k => w.heap.size ≤ k) (w := w2) ⟨[], 0, _, hT⟩ 1 leafX (flat_at rfl rfl) ⟨hl, (by decide : 0 < 4294967296), (by decide : 0 < 4294967296), (by decide : 0 < 4294967296), (by decide : 0 < 4294967296), (by decide : 0 < 18446744073709551616), fun c hc => (by cases hc)⟩
  rw [(fresh_lay lsn).1, (fresh_lay lsn).2] at hLy
  unfold leafX NX.val nodeV at hLy
  dsimp only [List.length_nil] at hLy
  simp only [Int.natCast_zero] at hLy
  have HLY := Lib.hid hLy
  have HW2 := Lib.hid hw2
  clear hLy hT hw2
  go_enter Tryz.func12, Tryz.ntmps12
  go_wp2_with (rw [← HW2.out]; go_at_call 43; refine HLY.out.mono ?_; rintro e w3 ⟨rfl, hT3, hf3⟩)
  go_ret
  refine ⟨_, _, rfl, hT3.mono fun k hk => hk.elim id fun h => Nat.le_trans hb2.size h, ?_⟩
  exact hb2.trans (hf3.below (B := w.heap.size) hb2.size fun k hk => hk)
end Go.Proofs.YtenfkghoolegfaaGreatDoor
set_option linter.unusedVariables false
namespace Go.Proofs.YtenfkghoolegfaaGreatDoor
open Go.RowKit
open Ev (ev AS AObj st1 c3 noCnv VRel LRel Hands hBase cxOK globT Fact)
namespace Km
def no (_ : Nat) : Bool := false
def tok (k : Nat) : Value := .chan (some k)
noncomputable def C1 : Ev.Ctx := Ev.CX [] [] [] noCnv no
noncomputable def flt1 (k : Int) : AObj := .cells ⟨c3 (tok 0) (tok 1) (.iface 80 (.int .i64 k)), 3, 138, 1, false, false⟩
def iArgs (k : Int) : List Value := [.iface 134 (.pointer (some ⟨0, 0, none⟩)), .iface 80 (.int .i64 k)]
set_option maxRecDepth 1000000
theorem is_run : isTr ((ev C1 1000).f 35 (iArgs 7) (st1 (flt1 7))) = true := by kernel_rfl
end Km
open Km
def om1 (op nm : ByteArray) : Nat → Value
  | 0 => .string op
  | 1 => .string nm
  | k => .pointer (some ⟨5, k - hBase, none⟩)
section
variable {op nm : ByteArray}
theorem hands1 : Hands (om1 op nm) := fun t => by
  have : hBase + t = (hBase + t - 2) + 2 := by unfold hBase; omega
  rw [this]
  show Value.pointer (some ⟨5, hBase + t - 2 + 2 - hBase, none⟩) = _
  rw [show hBase + t - 2 + 2 - hBase = t by unfold hBase; omega]
theorem c1OK : Ev.COK (om1 op nm) C1 := cxOK hands1 (fun p hp => by cases hp) (fun f hf => by cases hf) (fun f hf => by cases hf) Ev.noCnv_ok no
/-- The handle of the errors' type, as the condition asks for it. -/
def GlobAt (w : World) : Prop := w.cell? ⟨0, 0, none⟩ = some (.iface 187 (.agg #[.pointer (some ⟨5, 37, none⟩)]))
theorem bs1 {w : World} (hg : GlobAt w) (ht : PowAt w) : Ev.Bs (om1 op nm) C1 2 w := by
  have h1 : 1 < w.heap.size := by
    unfold PowAt at ht
    rcases Nat.lt_or_ge 1 w.heap.size with h | h
    · exact h
    · rw [Array.getElem?_eq_none h] at ht; cases ht
  refine ⟨h1, fun g v h => ⟨?_, (glob_of hands1 hg g v h).2⟩, (fun k h => by cases h), fun g cs h => ?_⟩
  · have h' : globT g = some v := h
    unfold globT at h'
    cases hb : Nat.beq g 0 with
    | false => rw [hb] at h'; cases h'
    | true => have := Nat.eq_of_beq_eq_true hb; omega
  · have h' : Ev.ivT g = some cs := h
    unfold Ev.ivT at h'
    cases hb : Nat.beq g 1 with
    | false => rw [hb] at h'; cases h'
    | true =>
      have := Nat.eq_of_beq_eq_true hb
      subst this
      rw [hb] at h'
      refine ⟨by omega, ?_⟩
      unfold PowAt at ht
      split at ht
      · rename_i cs' t fz he
        cases ht
        cases h'
        exact ⟨t, fz, he⟩
      · cases ht
/-- errors.Is(e, ErrNone). -/
theorem is_none {w : World} (hg : GlobAt w) (ht : PowAt w) {B : Nat} {v : Value} (h : ErrV B w op nm 7 v) (hB : 2 ≤ B) :
    Calls Tryz.prog 35 #[v, .iface 80 (.int .i64 7)] w fun e w' => e = .returned (.bool true) ∧ Fr (fun k => B ≤ k) w w' := by
  rcases h with ⟨h, _⟩ | ⟨_, r, rfl, hr, hb⟩
  · cases h
  obtain ⟨s, hs⟩ := isTr_some is_run
  refine (Ev.run_one (B := 2) (i := ⟨r, 0, 3, 1, false, 3⟩) c1OK hs (Ev.or_three hb (.tok 0 rfl) (.tok 1 rfl) (.iface _ _ _ (.plain _ rfl))) (by show 2 ≤ r; omega) (Array.getElem?_eq_some_iff.1 hb).1 (LRel.cons (.iface _ _ _ (.ptr _ _ ⟨rfl, _, rfl, rfl⟩)) (LRel.cons (.iface _ _ _ (.plain _ rfl)) (LRel.nil _))) (bs1 hg ht) rfl).mono ?_
  rintro e w' ⟨v', m', rfl, hv, hf, ho⟩
  refine ⟨by rw [Ev.plain_inv hv rfl], hf.mono (fun k _ e => by have e : k = r := e; omega)⟩
end
end Go.Proofs.YtenfkghoolegfaaGreatDoor
set_option linter.unusedVariables false
namespace Go.Proofs.YtenfkghoolegfaaGreatDoor
open Go.ChangeShapes Go.WideShapes Go.ChangeAt Go.RowKit Go.Joins Go.Deep
section
variable {H : Type} {enc : TypeId × Value → H} {w : World} {base : Nat} {held : Bool}
/-- Numbers that came in. -/
theorem ints_in {fuel : Nat} {v : Value} {y : DataW H × List MemPlace} (h : DataW.trod enc Tryz.prog w base (fun _ => true) held fuel 48 [v] = some y) :
    ∃ (A : Option Addr) (c : Nat) (l : List Int), v = .slice A l.length c ∧ Reads w w.heap.size 1 A l.length (l.map (.int .i64)) ∧ ∀ v ∈ l, -9223372036854775808 ≤ v ∧ v ≤ 9223372036854775807 := by
  rcases open_ints Tryz.underlying48 Tryz.underlying3 (by kernel_rfl) h with ⟨hcs, _⟩ | ⟨x, l, c, zs, hcs, _, hl, hm, hz, _, hcell, hwz⟩
  · simp at hcs
    exact ⟨none, 0, [], hcs, Reads.none_, fun v hv => absurd hv (by simp)⟩
  · simp at hcs hz
    have hlt : (zs.take l).length = l := by rw [List.length_take]; omega
    refine ⟨some x, c, zs.take l, by rw [hcs, hlt], ⟨by simp, fun h0 => ?_⟩, fun v hv => ?_⟩
    · rw [hlt] at h0
      have c0 := hcell 0 (by omega)
      have hb := World.block_lt_of_cell? w _ c0
      refine ⟨x, rfl, by simpa [Addr.add] using hb, fun j u hu => ?_⟩
      rw [List.getElem?_map, List.getElem?_take] at hu
      by_cases hj : j < l
      · rw [if_pos hj] at hu
        rw [hcell j (by omega)]
        cases hzj : zs[j]? with
        | none => rw [hzj] at hu; cases hu
        | some z => rw [hzj] at hu; simpa [List.getD_eq_getElem?_getD, hzj] using hu
      · rw [if_neg hj] at hu; cases hu
    · have wf := hwz v (List.mem_of_mem_take hv)
      have e1 : IntKind.i64.min = -9223372036854775808 := rfl
      have e2 : IntKind.i64.max = 9223372036854775807 := rfl
      simp [Lit.wf] at wf
      omega
end
theorem pow_of {W : World} (h : laidMetH Tryz.prog laidL W) : PowAt W := by
  obtain ⟨_, t, fz, e⟩ := iv_of h 1 _ rfl
  unfold PowAt
  rw [e]
theorem pow_lt {W : World} (h : PowAt W) : 1 < W.heap.size := by
  rcases Nat.lt_or_ge 1 W.heap.size with h1 | h1
  · exact h1
  · unfold PowAt at h
    rw [Array.getElem?_eq_none (by omega)] at h
    cases h
theorem globBelow {w w1 : World} (h : GlobAt w) (hb : Below w.heap.size w w1) : GlobAt w1 := (hb.cell (World.block_lt_of_cell? w _ h)).trans h
end Go.Proofs.YtenfkghoolegfaaGreatDoor
set_option linter.unusedVariables false
namespace Go.Proofs.YtenfkghoolegfaaGreatDoor.Ev
open Go.RowKit
variable {ω : Nat → Value}
theorem glob_back (hh : Hands ω) {C : Ctx} {B : Nat} {w : World} (hG : GlobOK C) (h : Bs ω C B w) : GlobAt w := by
  obtain ⟨_, v', h1, h2⟩ := h.gl 0 (rtV 37) (by rw [hG.1]; rfl)
  have h3 := h2 (fun _ => none)
  unfold rtV at h3
  cases h3 with
  | plain v hp => cases hp
  | iface t v v'' h4 =>
    cases h4 with
    | plain v hp => cases hp
    | agg cs cs' hs h5 =>
      have h6 := h5 0 (by decide)
      have h7 := tok_inv h6
      have : cs'.size = 1 := hs.symm
      unfold GlobAt
      rw [h1]
      have e : cs' = #[.pointer (some ⟨5, 37, none⟩)] := by
        apply Array.ext
        · rw [this]; rfl
        · intro i h8 h9
          have : i = 0 := by simp at h9; exact h9
          subst this
          have e2 : cs'[0] = cs'.getD 0 undef := by simp [h8]
          rw [e2, h7]
          exact hh 37
      rw [e]
theorem pow_back {C : Ctx} {B : Nat} {w : World} (hG : GlobOK C) (h : Bs ω C B w) : PowAt w := by
  obtain ⟨_, t, fz, e⟩ := h.iv 1 _ (hG.2 1 _ rfl)
  unfold PowAt
  rw [e]
/-- A function that a contract tells. -/
theorem sp_calls (hh : Hands ω) {g : FuncId} {k : SpF} (he : ∀ args w, (callFunc g args).run Tryz.prog w = .ok (.enter g args) w)
    (h : ∀ vs s v s', k vs s = some (v, s') → s' = s ∧ ∀ (m : M ω) (w : World) (args : Array Value), LRel m vs args.toList → GlobAt w → PowAt w → ∃ v', VRel m v v' ∧ Calls Tryz.prog g args w fun e w' => e = .returned v' ∧ Below w.heap.size w w') :
    ∀ C : Ctx, C.P = Tryz.prog → GlobOK C → SpOK ω C g k := by
  intro C hP hG vs s v s' hv B X m w args hs hl hB
  obtain ⟨rfl, h1⟩ := h vs s v s' hv
  obtain ⟨v', hv', hc⟩ := h1 m w args hl (glob_back hh hG hB) (pow_back hG hB)
  refine calls_ok (by rw [hP]; exact he _ _) fun n => ?_
  rw [hP]
  refine (callsIn_wide.2 hc).mono ?_
  rintro e w' ⟨rfl, hb⟩
  exact ⟨_, rfl, m, Le.refl _, hs.below hb, hv', hb.mono hB.le⟩
theorem known_calls (hh : Hands ω) {g : FuncId} {b : Bool} (he : ∀ args w, (callFunc g args).run Tryz.prog w = .ok (.enter g args) w) (h : ∀ w, GlobAt w → PowAt w → Calls Tryz.prog g #[] w fun e w' => e = .returned (.bool b) ∧ Below w.heap.size w w') :
    ∀ C : Ctx, C.P = Tryz.prog → GlobOK C → SpOK ω C g (spKnown (.bool b)) := by
  refine sp_calls hh he fun vs s v s' hv => ?_
  unfold spKnown at hv
  split at hv
  · cases hv
    refine ⟨rfl, fun m w args hl hg ht => ?_⟩
    have ha : args = #[] := by
      have := hl.1
      cases args with | mk l => cases l with | nil => rfl | cons _ _ => simp at this
    subst ha
    exact ⟨_, .plain _ rfl, h w hg ht⟩
  · cases hv
/-- A page's number (token i) as a text (token j). -/
def spDig (i j : Nat) : SpF
  | [.chan (some k)], s => cond (Nat.beq k i) (some (.chan (some j), s)) none
  | _, _ => none
theorem spDig_sp (hh : Hands ω) {g : FuncId} (he : ∀ args w, (callFunc g args).run Tryz.prog w = .ok (.enter g args) w) {i j n : Nat} {b : ByteArray} (h1 : ω i = .int .u32 (n : Nat)) (h2 : ω j = .string b)
    (h : ∀ w, PowAt w → Calls Tryz.prog g #[.int .u32 (n : Nat)] w fun e w' => e = .returned (.string b) ∧ Below w.heap.size w w') : ∀ C : Ctx, C.P = Tryz.prog → GlobOK C → SpOK ω C g (spDig i j) := by
  refine sp_calls hh he fun vs s v s' hv => ?_
  unfold spDig at hv
  split at hv
  · rename_i k
    cases hb : Nat.beq k i with
    | false => rw [hb] at hv; cases hv
    | true =>
      rw [hb] at hv
      cases hv
      have := Nat.eq_of_beq_eq_true hb
      subst this
      refine ⟨rfl, fun m w args hl hg ht => ?_⟩
      obtain ⟨x', rfl, hx⟩ := args1 hl
      obtain rfl := tok_inv hx
      refine ⟨.string b, ?_, ?_⟩
      · rw [← h2]; exact .tok j (by rw [h2]; rfl)
      · rw [h1]; exact h w ht
  · cases hv
end Go.Proofs.YtenfkghoolegfaaGreatDoor.Ev
namespace Go.Proofs.YtenfkghoolegfaaGreatDoor
open Go.RowKit
/-- A row of cells' keys and values, by their lengths. -/
def CellsLn (w : World) (ck : Option Addr) (lk : Nat) (kl vl : Nat → Nat) : Prop :=
  ∀ k, k < lk → ∃ ad a c b d, ck = some ad ∧ w.cell? (ad.add (k * 5)) = some (.slice a (kl k) c) ∧ w.cell? ⟨(ad.add (k * 5)).block, (ad.add (k * 5)).off + 2, none⟩ = some (.slice b (vl k) d) ∧ kl k ≤ 9223372036854775807 ∧ vl k ≤ 9223372036854775807
def okLn (kl vl : Nat → Nat) : Nat → Bool
  | 0 => true
  | k + 1 => okLn kl vl k && (decide (kl k ≤ 600) && decide (vl k ≤ 600))
theorem okLn_false {kl vl : Nat → Nat} {k : Nat} (h : okLn kl vl k = false) : ∀ {n : Nat}, k ≤ n → okLn kl vl n = false
  | 0, h0 => by obtain rfl : k = 0 := by omega
                exact h
  | n + 1, h0 => by
    by_cases e : k = n + 1
    · subst e; exact h
    · simp [okLn, okLn_false h (n := n) (by omega)]
def smallL (lk ld : Nat) (kl vl : Nat → Nat) : Bool := decide (lk ≤ 24) && (decide (ld ≤ 600) && okLn kl vl lk)
section
variable {w : World} {lb lo cc : Nat} {ck dk : Option Addr} {lk cck ld cdk : Nat} {kl vl : Nat → Nat}
set_option maxHeartbeats 1000000 in
set_option maxRecDepth 100000 in
theorem small09_big (hl : lk ≤ 9223372036854775807) (hd : ld ≤ 9223372036854775807) (c5 : w.cell? ⟨lb, lo + 5, none⟩ = some (.slice ck lk cck)) (c7 : w.cell? ⟨lb, lo + 7, none⟩ = some (.slice dk ld cdk)) (h : 24 < lk) :
    Calls Tryz.prog 21 #[.slice none 0 0, .slice (some ⟨lb, lo, none⟩) 1 cc] w fun e w' => e = .returned (.bool false) ∧ w' = w := by
  have h1 : decide (24 < lk) = true := by simp; omega
  go_enter Tryz.func21, Tryz.ntmps21
  go_wp2
  refine wp_loop_rounds 1 ?_
  rw [rounds_succ]
  go_wp2
  refine wp_loop_rounds 1 ?_
  rw [rounds_succ]
  go_wp2
  go_ret
  exact ⟨rfl, rfl⟩
set_option maxHeartbeats 1000000 in
set_option maxRecDepth 100000 in
theorem small09_data (hd : ld ≤ 9223372036854775807) (c5 : w.cell? ⟨lb, lo + 5, none⟩ = some (.slice ck lk cck)) (c7 : w.cell? ⟨lb, lo + 7, none⟩ = some (.slice dk ld cdk)) (h : lk ≤ 24) (h' : 600 < ld) :
    Calls Tryz.prog 21 #[.slice none 0 0, .slice (some ⟨lb, lo, none⟩) 1 cc] w fun e w' => e = .returned (.bool false) ∧ w' = w := by
  have h1 : decide (24 < lk) = false := by simp; omega
  have h2 : decide (600 < ld) = true := by simp; omega
  go_enter Tryz.func21, Tryz.ntmps21
  go_wp2
  refine wp_loop_rounds 1 ?_
  rw [rounds_succ]
  go_wp2
  refine wp_loop_rounds 1 ?_
  rw [rounds_succ]
  go_wp2
  go_ret
  exact ⟨rfl, rfl⟩
set_option maxHeartbeats 1000000 in
set_option maxRecDepth 100000 in
theorem small09_rest (c5 : w.cell? ⟨lb, lo + 5, none⟩ = some (.slice ck lk cck)) (c7 : w.cell? ⟨lb, lo + 7, none⟩ = some (.slice dk ld cdk)) (h : lk ≤ 24) (h' : ld ≤ 600) (hC : CellsLn w ck lk kl vl) :
    Calls Tryz.prog 21 #[.slice none 0 0, .slice (some ⟨lb, lo, none⟩) 1 cc] w fun e w' => e = .returned (.bool (okLn kl vl lk)) ∧ w' = w := by
  have h1 : decide (24 < lk) = false := by simp; omega
  have h2 : decide (600 < ld) = false := by simp; omega
  go_enter Tryz.func21, Tryz.ntmps21
  go_wp2
  refine wp_loop_rounds 1 ?_
  rw [rounds_succ]
  go_wp2
  refine wp_loop_rounds 2 ?_
  rw [rounds_succ]
  go_wp2
  go_loop [7] (fun t => ∃ k : Nat, k ≤ lk ∧ okLn kl vl k = true ∧ t = .int .i64 k) (fun t => lk - (intOf t).toNat)
  case atStart => exact ⟨0, Nat.zero_le _, rfl, rfl⟩
  case round =>
    obtain ⟨k, hk, hok, rfl⟩ := hrel
    by_cases hlt : k < lk
    · obtain ⟨ad, a, c, b, d, rfl, e1, e2, hm1, hm2⟩ := hC k hlt
      have e3 : decide (k < lk) = true := by simpa using hlt
      by_cases g1 : kl k ≤ 600
      · have e4 : decide (600 < kl k) = false := by simp; omega
        by_cases g2 : vl k ≤ 600
        · have e5 : decide (600 < vl k) = false := by simp; omega
          go_wp2
          go_round
          case rel => exact ⟨k + 1, by omega, by simp [okLn, hok, g1, g2], by go_num⟩
          case measure => simp [intOf]; omega
        · have e5 : decide (600 < vl k) = true := by simp; omega
          have hf : okLn kl vl lk = false := okLn_false (k := k + 1) (by simp [okLn, g2]) (by omega)
          have HF := Lib.hid hf
          clear hf
          go_wp2
          go_ret
          rw [HF.out]
          exact ⟨rfl, rfl⟩
      · have e4 : decide (600 < kl k) = true := by simp; omega
        have hf : okLn kl vl lk = false := okLn_false (k := k + 1) (by simp [okLn, g1]) (by omega)
        have HF := Lib.hid hf
        clear hf
        go_wp2
        go_ret
        rw [HF.out]
        exact ⟨rfl, rfl⟩
    · have e3 : decide (k < lk) = false := by simpa using hlt
      obtain rfl : k = lk := by omega
      have HF := Lib.hid hok
      clear hok
      go_wp2
      rw [rounds_succ]
      go_wp2
      go_ret
      rw [HF.out]
      exact ⟨rfl, rfl⟩
theorem small09_any (hl : lk ≤ 9223372036854775807) (hd : ld ≤ 9223372036854775807) (c5 : w.cell? ⟨lb, lo + 5, none⟩ = some (.slice ck lk cck)) (c7 : w.cell? ⟨lb, lo + 7, none⟩ = some (.slice dk ld cdk)) (hC : lk ≤ 24 → CellsLn w ck lk kl vl) :
    Calls Tryz.prog 21 #[.slice none 0 0, .slice (some ⟨lb, lo, none⟩) 1 cc] w fun e w' => e = .returned (.bool (smallL lk ld kl vl)) ∧ w' = w := by
  unfold smallL
  by_cases h : lk ≤ 24
  · by_cases h' : ld ≤ 600
    · rw [decide_eq_true h, decide_eq_true h', Bool.true_and, Bool.true_and]
      exact small09_rest c5 c7 h h' (hC h)
    · rw [decide_eq_false h', Bool.false_and, Bool.and_false]
      exact small09_data hd c5 c7 h (by omega)
  · rw [decide_eq_false h, Bool.false_and]
    exact small09_big hl hd c5 c7 (by omega)
end
end Go.Proofs.YtenfkghoolegfaaGreatDoor
set_option linter.unusedVariables false
namespace Go.Proofs.YtenfkghoolegfaaGreatDoor
open Go.RowKit
set_option maxHeartbeats 2000000 in
set_option maxRecDepth 100000 in
theorem bytes_none {X : Nat → Prop} {w : World} {T M : Nat} {t : PT} (h : TX X w T M t) (n : Nat) (hn : t.pages ≤ n) :
    Calls Tryz.prog 65 #[.pointer (some ⟨T, 0, none⟩), .int .u32 (n : Nat)] w fun e w' => e = .returned (.tuple #[.slice none 0 0, .int .i64 7]) ∧ w' = w := by
  obtain ⟨O, ck, src, h⟩ := h
  have f3 : w.cell? ⟨T, 3, none⟩ = some (.int .u32 (t.pages : Nat)) := h.blk.cell 3
  have f6 : w.cell? ⟨T, 6, none⟩ = some (.map (some M)) := h.blk.cell 6
  have d1 : decide ((t.pages : Int) ≤ (n : Int)) = true := decide_eq_true (by omega)
  have d2 : decide (t.pages ≤ n) = true := decide_eq_true hn
  have HM := Lib.hid h.map
  cases hk : look n O 0 with
  | none =>
    have HK := Lib.hid hk
    clear h hk
    go_enter Tryz.func65, Tryz.ntmps65
    go_wp2_with (refine wpList_look_none rfl (.tmp 15) (.tmp 16) rfl rfl rfl HM.out HK.out ?_)
    go_ret2
    exact ⟨rfl, rfl⟩
  | some r =>
    obtain ⟨j, y⟩ := r
    have HK := Lib.hid hk
    clear h hk
    unfold KE.val at *
    go_enter Tryz.func65, Tryz.ntmps65
    go_wp2_with (refine wpList_look_some rfl (.tmp 15) (.tmp 16) rfl rfl rfl HM.out HK.out ?_)
    go_ret2
    exact ⟨rfl, rfl⟩
def headX (t : PT) : NX := ⟨1, t.lsn, none, 0, [], 0, none, 0, [], t.root, t.pages, t.free, t.entries⟩
set_option maxHeartbeats 4000000 in
set_option maxRecDepth 1000000 in
theorem bytes_head {X : Nat → Prop} {w : World} {T M : Nat} {t : PT} (h : TX X w T M t) (ok : t.OK) (hc : t.changed = true) (hl : lookO 0 t.over = none) :
    Calls Tryz.prog 65 #[.pointer (some ⟨T, 0, none⟩), .int .u32 0] w fun e w' => ∃ A c, e = .returned (.tuple #[.slice A 256 c, .int .i64 0]) ∧ w'.ownsRow w.heap.size 5 1 (.slice A 256 c) 256 (bl (putP t.head)) ∧ Below w.heap.size w w' := by
  obtain ⟨O, ck, src, h⟩ := h
  have h0 := ok.head
  have f3 : w.cell? ⟨T, 3, none⟩ = some (.int .u32 (t.pages : Nat)) := h.blk.cell 3
  have f6 : w.cell? ⟨T, 6, none⟩ = some (.map (some M)) := h.blk.cell 6
  have f7 : w.cell? ⟨T, 7, none⟩ = some (.bool true) := by rw [← hc]; exact h.blk.cell 7
  have hBl := h.blk
  have kS : Hid (∀ W, Below w.heap.size w W → (W.cell? ⟨T, 1, none⟩ = some (.int .u64 (t.lsn : Nat)) ∧ W.cell? ⟨T, 2, none⟩ = some (.int .u32 (t.root : Nat)) ∧ W.cell? ⟨T, 3, none⟩ = some (.int .u32 (t.pages : Nat)) ∧ W.cell? ⟨T, 4, none⟩ = some (.int .u32 (t.free : Nat)) ∧ W.cell? ⟨T, 5, none⟩ = some (.int .u64 (t.entries : Nat)))) := Lib.hid fun W hW => ⟨(hBl.below hW hBl.lt).cell 1, (hBl.below hW hBl.lt).cell 2, (hBl.below hW hBl.lt).cell 3, (hBl.below hW hBl.lt).cell 4, (hBl.below hW hBl.lt).cell 5⟩
  clear hBl
  have d1 : decide ((t.pages : Int) ≤ 0) = false := decide_eq_false (by omega)
  have d2 : decide (t.pages ≤ 0) = false := decide_eq_false (by omega)
  have z0 : (t.pages == 0) = false := by simp; omega
  have z1 : ¬ t.pages = 0 := by omega
  have z2 : decide (t.pages = 0) = false := decide_eq_false (by omega)
  have HM := Lib.hid h.map
  have hP := Put_any (headX t) w.drew (flat_at rfl rfl) (Nat.le_refl _) ok.fit
  rw [show putE (headX t).n = 0 from ok.putE, show (headX t).n = t.head from rfl] at hP
  unfold headX NX.val nodeV at hP
  dsimp only [List.length_nil] at hP
  simp only [Int.natCast_zero] at hP
  have hk : look 0 O 0 = none := by
    rw [h.over, over_look 0 O 0] at hl
    cases hk : look 0 O 0 with
    | none => rfl
    | some r => rw [hk] at hl; cases hl
  have HK := Lib.hid hk
  have HP := Lib.hid hP
  clear h hk hP hl ok h0
  go_enter Tryz.func65, Tryz.ntmps65
  go_wp2_with (refine wpList_look_none rfl (.tmp 15) (.tmp 16) rfl rfl rfl HM.out HK.out ?_)
  refine regionE 12 (fun W0 => W0.cell? ⟨T, 1, none⟩ = some (.int .u64 (t.lsn : Nat)) ∧ W0.cell? ⟨T, 2, none⟩ = some (.int .u32 (t.root : Nat)) ∧ W0.cell? ⟨T, 3, none⟩ = some (.int .u32 (t.pages : Nat)) ∧ W0.cell? ⟨T, 4, none⟩ = some (.int .u32 (t.free : Nat)) ∧ W0.cell? ⟨T, 5, none⟩ = some (.int .u64 (t.entries : Nat))) (by kernel_rfl) (by kernel_rfl) (by kernel_rfl) (by kernel_rfl) (by kernel_rfl) (kS.out _ ((Below.refl _ w).drew)) (fun hHeld hTl => ?_)
  refine takeE 0 (v := ?_) hTl rfl (by decide) (by kernel_rfl) (by kernel_rfl) (fun _ _ _ h => h) hHeld (Or.inl ⟨by rfl, ?_⟩) (fun hTl => ?_)
  rotate_left
  · intro w hSw; (try dsimp only at hSw); go_simp
    all_goals with_reducible rfl
  try simp only [Act.put, List.setIfInBounds_toArray, List.set_cons_zero, List.set_cons_succ]
  refine takeE 1 (v := ?_) hTl rfl (by decide) (by kernel_rfl) (by kernel_rfl) (fun _ _ _ h => h) hHeld (Or.inl ⟨by rfl, ?_⟩) (fun hTl => ?_)
  rotate_left
  · intro w hSw; (try dsimp only at hSw); go_simp
    all_goals with_reducible rfl
  try simp only [Act.put, List.setIfInBounds_toArray, List.set_cons_zero, List.set_cons_succ]
  refine takeE 2 (v := ?_) hTl rfl (by decide) (by kernel_rfl) (by kernel_rfl) (fun _ _ _ h => h) hHeld (Or.inl ⟨by rfl, ?_⟩) (fun hTl => ?_)
  rotate_left
  · intro w hSw; (try dsimp only at hSw); go_simp
    all_goals with_reducible rfl
  try simp only [Act.put, List.setIfInBounds_toArray, List.set_cons_zero, List.set_cons_succ]
  refine takeE 3 (v := ?_) hTl rfl (by decide) (by kernel_rfl) (by kernel_rfl) (fun _ _ _ h => h) hHeld (Or.inl ⟨by rfl, ?_⟩) (fun hTl => ?_)
  rotate_left
  · intro w hSw; (try dsimp only at hSw); go_simp
    all_goals with_reducible rfl
  try simp only [Act.put, List.setIfInBounds_toArray, List.set_cons_zero, List.set_cons_succ]
  refine takeE 4 (v := ?_) hTl rfl (by decide) (by kernel_rfl) (by kernel_rfl) (fun _ _ _ h => h) hHeld (Or.inl ⟨by rfl, ?_⟩) (fun hTl => ?_)
  rotate_left
  · intro w hSw; (try dsimp only at hSw); go_simp
    all_goals with_reducible rfl
  try simp only [Act.put, List.setIfInBounds_toArray, List.set_cons_zero, List.set_cons_succ]
  refine takeE 5 (v := ?_) hTl rfl (by decide) (by kernel_rfl) (by kernel_rfl) (fun _ _ _ h => h) hHeld (Or.inl ⟨by rfl, ?_⟩) (fun hTl => ?_)
  rotate_left
  · intro w hSw; (try dsimp only at hSw); go_simp
    all_goals with_reducible rfl
  try simp only [Act.put, List.setIfInBounds_toArray, List.set_cons_zero, List.set_cons_succ]
  refine takeE 6 (v := ?_) hTl rfl (by decide) (by kernel_rfl) (by kernel_rfl) (fun _ _ _ h => h) hHeld (Or.inl ⟨by rfl, ?_⟩) (fun hTl => ?_)
  rotate_left
  · intro w hSw; (try dsimp only at hSw); go_simp
    all_goals with_reducible rfl
  try simp only [Act.put, List.setIfInBounds_toArray, List.set_cons_zero, List.set_cons_succ]
  refine takeE 7 (v := ?_) hTl rfl (by decide) (by kernel_rfl) (by kernel_rfl) (fun _ _ _ h => h) hHeld (Or.inl ⟨by rfl, ?_⟩) (fun hTl => ?_)
  rotate_left
  · intro w hSw; (try dsimp only at hSw); go_simp
    all_goals with_reducible rfl
  try simp only [Act.put, List.setIfInBounds_toArray, List.set_cons_zero, List.set_cons_succ]
  refine takeE 8 (v := ?_) hTl rfl (by decide) (by kernel_rfl) (by kernel_rfl) (fun _ _ _ h => h) hHeld (Or.inl ⟨by rfl, ?_⟩) (fun hTl => ?_)
  rotate_left
  · intro w hSw; (try dsimp only at hSw); go_simp
    all_goals with_reducible rfl
  try simp only [Act.put, List.setIfInBounds_toArray, List.set_cons_zero, List.set_cons_succ]
  have hTl2 := hTl.step 9 (by kernel_rfl) (by decide)
  clear hTl
  refine oneE 9 rfl (by kernel_rfl) (fun K hK => ?_)
  refine step_callC rfl 80 _ (by go_simp) HP.out ?_
  rintro e w5 ⟨A, m, c, e5, ho5, hb5'⟩; subst e5; obtain ⟨rfl, ho⟩ := ho5 trivial; have hb5 : Below w.heap.size w w5 := (Below.refl _ w).drew.trans hb5'; refine ⟨_, rfl, ?_⟩
  refine hK.out _ _ (fun _ => kS.out _ hb5) ?_
  clear hK K
  try simp only [Act.put, List.setIfInBounds_toArray, List.set_cons_zero, List.set_cons_succ]
  have hTl := hTl2
  clear hTl2
  have hHeld := kS.out _ hb5
  refine takeE 10 (v := ?_) hTl rfl (by decide) (by kernel_rfl) (by kernel_rfl) (fun _ _ _ h => h) hHeld (Or.inl ⟨by rfl, ?_⟩) (fun hTl => ?_)
  rotate_left
  · intro w hSw; (try dsimp only at hSw); go_simp
    all_goals with_reducible rfl
  try simp only [Act.put, List.setIfInBounds_toArray, List.set_cons_zero, List.set_cons_succ]
  refine takeE 11 (v := ?_) hTl rfl (by decide) (by kernel_rfl) (by kernel_rfl) (fun _ _ _ h => h) hHeld (Or.inl ⟨by rfl, ?_⟩) (fun hTl => ?_)
  rotate_left
  · intro w hSw; (try dsimp only at hSw); go_simp
    all_goals with_reducible rfl
  try simp only [Act.put, List.setIfInBounds_toArray, List.set_cons_zero, List.set_cons_succ]
  clear hTl
  refine oneE 12 rfl (by kernel_rfl) (fun K hK => ?_)
  go_simp
  refine hK.out _ _ (fun h => absurd h (by decide)) ?_
  clear hK K
  try simp only [Act.put, List.setIfInBounds_toArray, List.set_cons_zero, List.set_cons_succ]
  refine oneE 13 rfl (by kernel_rfl) (fun K hK => ?_)
  go_simp
  refine hK.out _ _ (fun h => absurd h (by decide)) ?_
  clear hK K
  try simp only [Act.put, List.setIfInBounds_toArray, List.set_cons_zero, List.set_cons_succ]
  refine doneE (by kernel_rfl) ?_ _
  go_wp2
  go_ret2
  exact ⟨A, c, rfl, ho, hb5⟩
set_option maxHeartbeats 2000000 in
set_option maxRecDepth 100000 in
theorem Page_none {X : Nat → Prop} {w : World} {T M : Nat} {t : PT} (h : TX X w T M t) (n : Nat) (hn32 : n < 4294967296) (hn : t.pages ≤ n) (htab : PowAt w) :
    Calls Tryz.prog 26 #[.pointer (some ⟨T, 0, none⟩), .int .u32 (n : Nat)] w fun e w' => ∃ v, e = .returned (.tuple #[.slice none 0 0, v]) ∧ ErrV w.heap.size w' ⟨#[112, 97, 103, 101]⟩ ⟨(Lib.decDigits n).toArray⟩ 7 v ∧ Below w.heap.size w w' := by
  have hB := bytes_none h n hn
  have hD := digits_any n hn32 w htab
  have hF := fun nm W => fault_any ⟨#[112, 97, 103, 101]⟩ nm 7 W
  clear h
  go_enter Tryz.func26, Tryz.ntmps26
  go_wp2_with (first
    | (go_at_call 65; refine hB.mono ?_; rintro e w2 ⟨rfl, h2⟩; have h2 := h2.symm; subst h2)
    | (go_at_call 54; refine hD.mono ?_; rintro e w3 ⟨rfl, hb3⟩)
    | (go_at_call 51; refine (hF _ _).mono ?_; rintro e w4 ⟨v, rfl, hv, hb4⟩))
  go_ret2
  exact ⟨v, rfl, hv.lo hb3.size, hb3.trans (hb4.mono hb3.size)⟩
end Go.Proofs.YtenfkghoolegfaaGreatDoor
