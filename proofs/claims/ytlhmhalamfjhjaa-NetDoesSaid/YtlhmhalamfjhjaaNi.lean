/- NetSent: texts of bytes; what is known between two deeds. -/
import Derived.Test.YtlhmhalamfjhjaaNh
import Derived.Laws.IdiomStrings
import Derived.Test.YtlhmhalamfjhjaaTab
set_option linter.unusedVariables false
namespace Go.Proofs.Ytlhmhalamfjhjaa
open Go.RowKit
/-- Bytes, as a text. -/
def toB (b : List Int) : List UInt8 := b.map fun x => UInt8.ofNat x.toNat
def toStr (b : List Int) : ByteArray := ⟨(toB b).toArray⟩
theorem toStr_size (b : List Int) : (toStr b).size = b.length := by
  show (toB b).toArray.size = _
  simp [toB]
theorem conv_row {B : Nat} {W : World} {A : Option Addr} {c : Nat} {b : List Int} (hr : RowI B W A c b) (h0 : 0 < b.length) : (convert 30 9 (.slice A b.length c)).run Try.prog W = .ok (.string (toStr b)) W := by
  obtain ⟨ad, rfl, _, h2⟩ := hr.reads.2 h0
  have hl : (toB b).length = b.length := by simp [toB]
  have := run_convert_bytes_back (P := Try.prog) W 30 9 5 ad c (toB b) Try.underlying30 Try.underlying5 Try.underlying9 (fun j hj => by
    have hj' : j < b.length := by omega
    rw [h2 j (.int .u8 b[j]) (by rw [List.getElem?_map, List.getElem?_eq_getElem hj']; rfl)]
    have hb := hr.byte b[j] (List.getElem_mem hj')
    have : ((toB b)[j].toNat : Int) = b[j] := by
      simp only [toB, List.getElem_map, UInt8.toNat_ofNat']
      omega
    rw [this])
  rw [hl] at this
  exact this
theorem diffs_same (s : ByteArray) : ∀ k, diffs s s k = 0
  | 0 => rfl
  | k + 1 => by rw [diffs, diffs_same s k, if_pos rfl]
theorem near_same (b : List Int) : nearB (toStr b) (toStr b) = true := by simp [nearB, diffs_same]
theorem diffs_set {b : List Int} {i : Nat} {u : Int} : ∀ k, diffs (toStr b) (toStr (b.set i u)) k ≤ if i < k then 1 else 0
  | 0 => by simp [diffs]
  | k + 1 => by
    have ih := diffs_set (b := b) (i := i) (u := u) k
    rw [diffs]
    by_cases h : i = k
    · subst h
      rw [if_neg (Nat.lt_irrefl i)] at ih
      rw [if_pos (Nat.lt_succ_self i)]
      split <;> omega
    · have e : (toStr b).data.toList[k]? = (toStr (b.set i u)).data.toList[k]? := by
        simp only [toStr, toB, List.getElem?_map, List.getElem?_set, if_neg h]
      rw [if_pos e]
      by_cases h2 : i < k
      · rw [if_pos h2] at ih; rw [if_pos (Nat.lt_succ_of_lt h2)]; omega
      · rw [if_neg h2] at ih; rw [if_neg (fun h3 : i < k + 1 => by omega)]; omega
theorem near_set (b : List Int) (i : Nat) (u : Int) : nearB (toStr b) (toStr (b.set i u)) = true := by
  have := diffs_set (b := b) (i := i) (u := u) (toStr b).size
  have h1 : (toStr b).size = (toStr (b.set i u)).size := by rw [toStr_size, toStr_size]; simp
  have h2 : diffs (toStr b) (toStr (b.set i u)) (toStr b).size ≤ 1 := by split at this <;> omega
  simp [nearB, h1.symm, h2]

/-- A packet that was sent, or is near to one that was. -/
def Sent (ss : List (List Int)) (ts : List Int) (p : Pk) : Prop :=
  0 < p.b.length ∧ p.b.length ≤ 8000 ∧ ∃ (j : Nat) (s : List Int), ts[j]? = some p.to ∧ ss[j]? = some s ∧ (p.sp = false → p.b = s) ∧ nearB (toStr s) (toStr p.b) = true
theorem Sent.more {ss : List (List Int)} {ts : List Int} {p : Pk} (h : Sent ss ts p) (s : List Int) (t : Int) : Sent (ss ++ [s]) (ts ++ [t]) p := by
  obtain ⟨h1, h2, j, x, h3, h4, h5⟩ := h
  exact ⟨h1, h2, j, x, by rw [List.getElem?_append_left (List.getElem?_eq_some_iff.1 h3).1]; exact h3, by rw [List.getElem?_append_left (List.getElem?_eq_some_iff.1 h4).1]; exact h4, h5⟩
/-- Between two deeds: the net; what was sent. -/
structure SentAt (B : Nat) (w : World) (a M : Nat) (nx : Int) (l : List PkA) (clock : Nat) (ss : List (List Int)) (ts : List Int) (vs vt : Value) : Prop where
  net : NetAt w a M nx l clock
  own1 : w.ownsRow B 9 1 vs ss.length (ss.map fun b => Value.string (toStr b))
  own2 : w.ownsRow B 3 1 vt ts.length (ts.map (Value.int .i64))
  len : ss.length = ts.length
  good : ∀ x ∈ l, Sent ss ts x.p
  short : ∀ s ∈ ss, s.length ≤ 8000
/-- A run of live. -/
def isTrue' (r : Option (Value × Ev.AS)) : Bool := match r with
  | some (.bool b, _) => b
  | _ => false
set_option maxRecDepth 1000000 in
theorem live_run : isTrue' ((Ev.ev (Ev.CT (fun _ => none) (fun _ => none) Ev.noMeth [] [] Ev.noCnv (fun _ => false)) 10000).f 7 [] ⟨0, .leaf⟩) = true := by kernel_rfl
theorem live_any (w : World) : Calls Try.prog 7 #[] w fun e w' => e = .returned (.bool true) ∧ Below w.heap.size w w' := by
  have h := live_run
  unfold isTrue' at h
  split at h
  · rename_i b s' hr
    subst h
    refine Ev.run_args (ω := fun _ => .nilIface) (C := Ev.CT (fun _ => none) (fun _ => none) Ev.noMeth [] [] Ev.noCnv (fun _ => false)) ⟨Ev.ctOK _ _ Ev.noMeth_ok (fun f hf => by cases hf) (fun f hf => by cases hf) Ev.noCnv_ok _, Ev.mixed, fun g k h => by cases h⟩ hr (Ev.LRel.nil _) rfl rfl w (fun g v h => by cases h) (fun k h => by cases h) (fun g cs h => by cases h)
  · cases h
end Go.Proofs.Ytlhmhalamfjhjaa
