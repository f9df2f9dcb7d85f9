/-
  No cell of these rows narrows 'for every input' (looked for: loops, veiled, ifaces, maps, wideKeys, modest, calm, conditions, laid).
  DERIVED. THE GIVEN ROWS OF THIS SEAT. 4 by the template 'for every input the law returns true; each argument reads behind the call as it read before'; 0 by the template 'total and deterministic' (their statements: YtcdimepfojdjdaaTotals.lean).
  GIVEN WITH THE SEED: the statements are not yours to turn. If you find one false, say at which input.
  Laid BY PROGRAM, IN A SANDBOX (cutbox-rows.mjs): the forced cells as the released guide's own fill.sh prints them over the translation b0f1cf2c171f3d72… (all of the seat's roots in one cut). By AI agents, Wed Nov 11 2026. No macro, syntax, notation, axiom, sorry.
-/
import Derived.Test.YtcdimepfojdjdaaChecked
import GoSem.Claim
import GoSem.ClaimJoined
import GoSem.ClaimMapViews
import Derived.JoinedTies
import Derived.KernelRfl
namespace Go.Proofs.Ytcdimepfojdjdaa
/- THE CELL 'sum', in the pinned program and in every row, IS THE sha256 OF THE DUMP (.gsa) THAT YtcdimepfojdjdaaProg.lean LOADS. Nothing in Lean hashes anything: it is a label: what it is worth is what the hold of that sum in a sandbox is worth. -/
noncomputable def Try.pinned : Pinned := { name := "ytcdimepfojdjdaa", sum := "b0f1cf2c171f3d726d408bebb3e1fc19bd23fef14c883665250bbd96fff87571", checked := Try.checked }
namespace Rows
def none {H : Type} : Left H := { results := [], args := [] }

/-- 'pontagelaw31.MeterKept': WHATEVER THE INPUT: true; the input reads as it did. -/
def meterKeptSpec : ChangeSpec := { name := "meterKept", fn := fun _ => fun
  | [d1, d2] => { results := [.lit (.bool true)], args := [d1, d2] }
  | _ => none }
def meterKeptRow : OpenClaim := { program := "ytcdimepfojdjdaa", sum := "b0f1cf2c171f3d726d408bebb3e1fc19bd23fef14c883665250bbd96fff87571", func := "pontage/pontagelaw31.MeterKept", spec := "meterKept", unfollowed := true, recurses := true, apart := false }
def MeterKeptSaid : Prop := meterKeptRow.holds Try.pinned (OpenSpec.ofChange meterKeptSpec)

/-- ITS FALSE NEIGHBOUR: 'it returns false'. Refute it at one input. -/
def meterKeptWrong : ChangeSpec := { name := "meterKept", fn := fun _ => fun
  | [d1, d2] => { results := [.lit (.bool false)], args := [d1, d2] }
  | _ => none }
def MeterKeptWrongFalsely : Prop := meterKeptRow.holds Try.pinned (OpenSpec.ofChange meterKeptWrong)

/-- 'pontagelaw31.MeterBound': WHATEVER THE INPUT: true; the input reads as it did. -/
def meterBoundSpec : ChangeSpec := { name := "meterBound", fn := fun _ => fun
  | [d1, d2] => { results := [.lit (.bool true)], args := [d1, d2] }
  | _ => none }
def meterBoundRow : OpenClaim := { program := "ytcdimepfojdjdaa", sum := "b0f1cf2c171f3d726d408bebb3e1fc19bd23fef14c883665250bbd96fff87571", func := "pontage/pontagelaw31.MeterBound", spec := "meterBound", unfollowed := true, recurses := true, apart := false }
def MeterBoundSaid : Prop := meterBoundRow.holds Try.pinned (OpenSpec.ofChange meterBoundSpec)

/-- ITS FALSE NEIGHBOUR: 'it returns false'. Refute it at one input. -/
def meterBoundWrong : ChangeSpec := { name := "meterBound", fn := fun _ => fun
  | [d1, d2] => { results := [.lit (.bool false)], args := [d1, d2] }
  | _ => none }
def MeterBoundWrongFalsely : Prop := meterBoundRow.holds Try.pinned (OpenSpec.ofChange meterBoundWrong)

/-- 'pontagelaw31.MeterRuns': WHATEVER THE INPUT: true; the input reads as it did. -/
def meterRunsSpec : ChangeSpec := { name := "meterRuns", fn := fun _ => fun
  | [d1, d2, d3] => { results := [.lit (.bool true)], args := [d1, d2, d3] }
  | _ => none }
def meterRunsRow : OpenClaim := { program := "ytcdimepfojdjdaa", sum := "b0f1cf2c171f3d726d408bebb3e1fc19bd23fef14c883665250bbd96fff87571", func := "pontage/pontagelaw31.MeterRuns", spec := "meterRuns", unfollowed := true, recurses := true, apart := false }
def MeterRunsSaid : Prop := meterRunsRow.holds Try.pinned (OpenSpec.ofChange meterRunsSpec)

/-- ITS FALSE NEIGHBOUR: 'it returns false'. Refute it at one input. -/
def meterRunsWrong : ChangeSpec := { name := "meterRuns", fn := fun _ => fun
  | [d1, d2, d3] => { results := [.lit (.bool false)], args := [d1, d2, d3] }
  | _ => none }
def MeterRunsWrongFalsely : Prop := meterRunsRow.holds Try.pinned (OpenSpec.ofChange meterRunsWrong)

/-- 'pontagelaw31.MeterNobody': WHATEVER THE INPUT: true; the input reads as it did. -/
def meterNobodySpec : ChangeSpec := { name := "meterNobody", fn := fun _ => fun
  | [d1, d2, d3] => { results := [.lit (.bool true)], args := [d1, d2, d3] }
  | _ => none }
def meterNobodyRow : OpenClaim := { program := "ytcdimepfojdjdaa", sum := "b0f1cf2c171f3d726d408bebb3e1fc19bd23fef14c883665250bbd96fff87571", func := "pontage/pontagelaw31.MeterNobody", spec := "meterNobody", unfollowed := true, recurses := true, apart := false }
def MeterNobodySaid : Prop := meterNobodyRow.holds Try.pinned (OpenSpec.ofChange meterNobodySpec)

/-- ITS FALSE NEIGHBOUR: 'it returns false'. Refute it at one input. -/
def meterNobodyWrong : ChangeSpec := { name := "meterNobody", fn := fun _ => fun
  | [d1, d2, d3] => { results := [.lit (.bool false)], args := [d1, d2, d3] }
  | _ => none }
def MeterNobodyWrongFalsely : Prop := meterNobodyRow.holds Try.pinned (OpenSpec.ofChange meterNobodyWrong)

/- THE SECOND FORM. 'bulk': how many values and letters a reading holds, each counted each time it is reached (what is shared counts as often as it is met; a slice's spare places count too). A statement '..UptoSaid' is the law's where the arguments, and the package variables that the reading takes, are together of bulk at most 1048576: NARROWER than '..Said'. Prove '..Said' where nothing that the law and all that it calls make is longer than what came in: it says more and counts as full. Else prove '..UptoSaid'. A law counts once. -/
mutual
def uptoBulk {H : Type} : DataW H → Nat
  | .lit (.string bytes) => bytes.length + 1
  | .lit _ => 1
  | .nil => 1
  | .ptr d => uptoBulk d + 1
  | .slice elems spare => uptoBulkAll elems + uptoBulkAll spare + 1
  | .agg parts => uptoBulkAll parts + 1
  | .iface _ d => uptoBulk d + 1
  | .map entries => uptoBulkEntries entries + 1
  | .held _ => 1
def uptoBulkAll {H : Type} : List (DataW H) → Nat
  | [] => 0
  | d :: r => uptoBulk d + uptoBulkAll r
def uptoBulkEntries {H : Type} : List (Lit × DataW H) → Nat
  | [] => 0
  | x :: r => uptoBulkEntry x + uptoBulkEntries r
def uptoBulkEntry {H : Type} : Lit × DataW H → Nat
  | (.string bytes, d) => bytes.length + uptoBulk d + 1
  | (_, d) => uptoBulk d + 1
 end
def uptoSmall : (H : Type) → List (DataW H) → Bool := fun _ ds => decide (uptoBulkAll ds ≤ 1048576)
def OpenSpec.upto (s : _root_.Go.ChangeSpec) : _root_.Go.OpenSpec := { _root_.Go.OpenSpec.ofChange s with cond := some uptoSmall }

/-- 'pontagelaw31.MeterKept', WHERE WHAT IT READS IS OF BULK AT MOST 1048576: true; the input reads as it did. -/
def meterKeptUptoRow : OpenClaim := { program := "ytcdimepfojdjdaa", sum := "b0f1cf2c171f3d726d408bebb3e1fc19bd23fef14c883665250bbd96fff87571", func := "pontage/pontagelaw31.MeterKept", spec := "meterKept", unfollowed := true, recurses := true, apart := false, narrowed := true }
def MeterKeptUptoSaid : Prop := meterKeptUptoRow.holds Try.pinned (OpenSpec.upto meterKeptSpec)

/-- 'pontagelaw31.MeterBound', WHERE WHAT IT READS IS OF BULK AT MOST 1048576: true; the input reads as it did. -/
def meterBoundUptoRow : OpenClaim := { program := "ytcdimepfojdjdaa", sum := "b0f1cf2c171f3d726d408bebb3e1fc19bd23fef14c883665250bbd96fff87571", func := "pontage/pontagelaw31.MeterBound", spec := "meterBound", unfollowed := true, recurses := true, apart := false, narrowed := true }
def MeterBoundUptoSaid : Prop := meterBoundUptoRow.holds Try.pinned (OpenSpec.upto meterBoundSpec)

/-- 'pontagelaw31.MeterRuns', WHERE WHAT IT READS IS OF BULK AT MOST 1048576: true; the input reads as it did. -/
def meterRunsUptoRow : OpenClaim := { program := "ytcdimepfojdjdaa", sum := "b0f1cf2c171f3d726d408bebb3e1fc19bd23fef14c883665250bbd96fff87571", func := "pontage/pontagelaw31.MeterRuns", spec := "meterRuns", unfollowed := true, recurses := true, apart := false, narrowed := true }
def MeterRunsUptoSaid : Prop := meterRunsUptoRow.holds Try.pinned (OpenSpec.upto meterRunsSpec)

/-- 'pontagelaw31.MeterNobody', WHERE WHAT IT READS IS OF BULK AT MOST 1048576: true; the input reads as it did. -/
def meterNobodyUptoRow : OpenClaim := { program := "ytcdimepfojdjdaa", sum := "b0f1cf2c171f3d726d408bebb3e1fc19bd23fef14c883665250bbd96fff87571", func := "pontage/pontagelaw31.MeterNobody", spec := "meterNobody", unfollowed := true, recurses := true, apart := false, narrowed := true }
def MeterNobodyUptoSaid : Prop := meterNobodyUptoRow.holds Try.pinned (OpenSpec.upto meterNobodySpec)

end Rows
end Go.Proofs.Ytcdimepfojdjdaa
