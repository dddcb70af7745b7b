/-
  No cell of these rows narrows 'for every input' (looked for: loops, veiled, ifaces, maps, wideKeys, modest, calm, conditions, laid).
  DERIVED. THE GIVEN ROWS OF THIS SEAT. 4 by the template 'for every input the law returns true; each argument reads behind the call as it read before'; 0 by the template 'total and deterministic' (their statements: YtbnoihmdgclkmaaTotals.lean).
  GIVEN WITH THE SEED: the statements are not yours to turn. If you find one false, say at which input.
  Laid BY PROGRAM, IN A SANDBOX (cutbox-rows.mjs): the forced cells as the released guide's own fill.sh prints them over the translation 9bcf5b7604e14763… (all of the seat's roots in one cut). By AI agents, Wed Nov 11 2026. No macro, syntax, notation, axiom, sorry.
-/
import Derived.Test.YtbnoihmdgclkmaaChecked
import GoSem.Claim
import GoSem.ClaimJoined
import GoSem.ClaimMapViews
import Derived.JoinedTies
import Derived.KernelRfl
namespace Go.Proofs.Ytbnoihmdgclkmaa
/- THE CELL 'sum', in the pinned program and in every row, IS THE sha256 OF THE DUMP (.gsa) THAT YtbnoihmdgclkmaaProg.lean LOADS. Nothing in Lean hashes anything: it is a label: what it is worth is what the hold of that sum in a sandbox is worth. -/
noncomputable def Try.pinned : Pinned := { name := "ytbnoihmdgclkmaa", sum := "9bcf5b7604e14763cbb6edf7063cd356c7d129f0d9f46dc808035305859f6742", checked := Try.checked }
namespace Rows
def none {H : Type} : Left H := { results := [], args := [] }

/-- 'scowlaw21.WeakSums': WHATEVER THE INPUT: true; the input reads as it did. -/
def weakSumsSpec : ChangeSpec := { name := "weakSums", fn := fun _ => fun
  | [d] => { results := [.lit (.bool true)], args := [d] }
  | _ => none }
def weakSumsRow : OpenClaim := { program := "ytbnoihmdgclkmaa", sum := "9bcf5b7604e14763cbb6edf7063cd356c7d129f0d9f46dc808035305859f6742", func := "scow/scowlaw21.WeakSums", spec := "weakSums", unfollowed := true, recurses := true, apart := false }
def WeakSumsSaid : Prop := weakSumsRow.holds Try.pinned (OpenSpec.ofChange weakSumsSpec)

/-- ITS FALSE NEIGHBOUR: 'it returns false'. Refute it at one input. -/
def weakSumsWrong : ChangeSpec := { name := "weakSums", fn := fun _ => fun
  | [d] => { results := [.lit (.bool false)], args := [d] }
  | _ => none }
def WeakSumsWrongFalsely : Prop := weakSumsRow.holds Try.pinned (OpenSpec.ofChange weakSumsWrong)

/-- 'scowlaw21.WeakRolls': WHATEVER THE INPUT: true; the input reads as it did. -/
def weakRollsSpec : ChangeSpec := { name := "weakRolls", fn := fun _ => fun
  | [d1, d2, d3, d4] => { results := [.lit (.bool true)], args := [d1, d2, d3, d4] }
  | _ => none }
def weakRollsRow : OpenClaim := { program := "ytbnoihmdgclkmaa", sum := "9bcf5b7604e14763cbb6edf7063cd356c7d129f0d9f46dc808035305859f6742", func := "scow/scowlaw21.WeakRolls", spec := "weakRolls", unfollowed := true, recurses := true, apart := false }
def WeakRollsSaid : Prop := weakRollsRow.holds Try.pinned (OpenSpec.ofChange weakRollsSpec)

/-- ITS FALSE NEIGHBOUR: 'it returns false'. Refute it at one input. -/
def weakRollsWrong : ChangeSpec := { name := "weakRolls", fn := fun _ => fun
  | [d1, d2, d3, d4] => { results := [.lit (.bool false)], args := [d1, d2, d3, d4] }
  | _ => none }
def WeakRollsWrongFalsely : Prop := weakRollsRow.holds Try.pinned (OpenSpec.ofChange weakRollsWrong)

/-- 'scowlaw21.WeakAll': WHATEVER THE INPUT: true; the input reads as it did. -/
def weakAllSpec : ChangeSpec := { name := "weakAll", fn := fun _ => fun
  | [d1, d2] => { results := [.lit (.bool true)], args := [d1, d2] }
  | _ => none }
def weakAllRow : OpenClaim := { program := "ytbnoihmdgclkmaa", sum := "9bcf5b7604e14763cbb6edf7063cd356c7d129f0d9f46dc808035305859f6742", func := "scow/scowlaw21.WeakAll", spec := "weakAll", unfollowed := true, recurses := true, apart := false }
def WeakAllSaid : Prop := weakAllRow.holds Try.pinned (OpenSpec.ofChange weakAllSpec)

/-- ITS FALSE NEIGHBOUR: 'it returns false'. Refute it at one input. -/
def weakAllWrong : ChangeSpec := { name := "weakAll", fn := fun _ => fun
  | [d1, d2] => { results := [.lit (.bool false)], args := [d1, d2] }
  | _ => none }
def WeakAllWrongFalsely : Prop := weakAllRow.holds Try.pinned (OpenSpec.ofChange weakAllWrong)

/-- 'scowlaw21.WeakAlong': WHATEVER THE INPUT: true; the input reads as it did. -/
def weakAlongSpec : ChangeSpec := { name := "weakAlong", fn := fun _ => fun
  | [d1, d2] => { results := [.lit (.bool true)], args := [d1, d2] }
  | _ => none }
def weakAlongRow : OpenClaim := { program := "ytbnoihmdgclkmaa", sum := "9bcf5b7604e14763cbb6edf7063cd356c7d129f0d9f46dc808035305859f6742", func := "scow/scowlaw21.WeakAlong", spec := "weakAlong", unfollowed := true, recurses := true, apart := false }
def WeakAlongSaid : Prop := weakAlongRow.holds Try.pinned (OpenSpec.ofChange weakAlongSpec)

/-- ITS FALSE NEIGHBOUR: 'it returns false'. Refute it at one input. -/
def weakAlongWrong : ChangeSpec := { name := "weakAlong", fn := fun _ => fun
  | [d1, d2] => { results := [.lit (.bool false)], args := [d1, d2] }
  | _ => none }
def WeakAlongWrongFalsely : Prop := weakAlongRow.holds Try.pinned (OpenSpec.ofChange weakAlongWrong)

/- THE SECOND FORM. 'bulk': how many values and letters a reading holds, each counted each time it is reached (what is shared counts as often as it is met; a slice's spare places count too). A statement '..UptoSaid' is the law's where the arguments, and the package variables that the reading takes, are together of bulk at most 1048576: NARROWER than '..Said'. Prove '..Said' where nothing that the law and all that it calls make is longer than what came in: it says more and counts as full. Else prove '..UptoSaid'. A law counts once. -/
mutual
def uptoBulk {H : Type} : DataW H → Nat
  | .lit (.string bytes) => bytes.length + 1
  | .lit _ => 1
  | .nil => 1
  | .ptr d => uptoBulk d + 1
  | .slice elems spare => uptoBulkAll elems + uptoBulkAll spare + 1
  | .agg parts => uptoBulkAll parts + 1
  | .iface _ d => uptoBulk d + 1
  | .map entries => uptoBulkEntries entries + 1
  | .held _ => 1
def uptoBulkAll {H : Type} : List (DataW H) → Nat
  | [] => 0
  | d :: r => uptoBulk d + uptoBulkAll r
def uptoBulkEntries {H : Type} : List (Lit × DataW H) → Nat
  | [] => 0
  | x :: r => uptoBulkEntry x + uptoBulkEntries r
def uptoBulkEntry {H : Type} : Lit × DataW H → Nat
  | (.string bytes, d) => bytes.length + uptoBulk d + 1
  | (_, d) => uptoBulk d + 1
 end
def uptoSmall : (H : Type) → List (DataW H) → Bool := fun _ ds => decide (uptoBulkAll ds ≤ 1048576)
def OpenSpec.upto (s : _root_.Go.ChangeSpec) : _root_.Go.OpenSpec := { _root_.Go.OpenSpec.ofChange s with cond := some uptoSmall }

/-- 'scowlaw21.WeakSums', WHERE WHAT IT READS IS OF BULK AT MOST 1048576: true; the input reads as it did. -/
def weakSumsUptoRow : OpenClaim := { program := "ytbnoihmdgclkmaa", sum := "9bcf5b7604e14763cbb6edf7063cd356c7d129f0d9f46dc808035305859f6742", func := "scow/scowlaw21.WeakSums", spec := "weakSums", unfollowed := true, recurses := true, apart := false, narrowed := true }
def WeakSumsUptoSaid : Prop := weakSumsUptoRow.holds Try.pinned (OpenSpec.upto weakSumsSpec)

/-- 'scowlaw21.WeakRolls', WHERE WHAT IT READS IS OF BULK AT MOST 1048576: true; the input reads as it did. -/
def weakRollsUptoRow : OpenClaim := { program := "ytbnoihmdgclkmaa", sum := "9bcf5b7604e14763cbb6edf7063cd356c7d129f0d9f46dc808035305859f6742", func := "scow/scowlaw21.WeakRolls", spec := "weakRolls", unfollowed := true, recurses := true, apart := false, narrowed := true }
def WeakRollsUptoSaid : Prop := weakRollsUptoRow.holds Try.pinned (OpenSpec.upto weakRollsSpec)

/-- 'scowlaw21.WeakAll', WHERE WHAT IT READS IS OF BULK AT MOST 1048576: true; the input reads as it did. -/
def weakAllUptoRow : OpenClaim := { program := "ytbnoihmdgclkmaa", sum := "9bcf5b7604e14763cbb6edf7063cd356c7d129f0d9f46dc808035305859f6742", func := "scow/scowlaw21.WeakAll", spec := "weakAll", unfollowed := true, recurses := true, apart := false, narrowed := true }
def WeakAllUptoSaid : Prop := weakAllUptoRow.holds Try.pinned (OpenSpec.upto weakAllSpec)

/-- 'scowlaw21.WeakAlong', WHERE WHAT IT READS IS OF BULK AT MOST 1048576: true; the input reads as it did. -/
def weakAlongUptoRow : OpenClaim := { program := "ytbnoihmdgclkmaa", sum := "9bcf5b7604e14763cbb6edf7063cd356c7d129f0d9f46dc808035305859f6742", func := "scow/scowlaw21.WeakAlong", spec := "weakAlong", unfollowed := true, recurses := true, apart := false, narrowed := true }
def WeakAlongUptoSaid : Prop := weakAlongUptoRow.holds Try.pinned (OpenSpec.upto weakAlongSpec)

end Rows
end Go.Proofs.Ytbnoihmdgclkmaa
