/-
  No cell of these rows narrows 'for every input' (looked for: loops, veiled, ifaces, maps, wideKeys, modest, calm, conditions, laid).
  DERIVED. THE GIVEN ROWS OF THIS SEAT. 5 by the template 'for every input the law returns true; each argument reads behind the call as it read before'; 0 by the template 'total and deterministic' (their statements: YtnadglhkghmdlaaTotals.lean).
  GIVEN WITH THE SEED: the statements are not yours to turn. If you find one false, say at which input.
  Laid BY PROGRAM, IN A SANDBOX (cutbox-rows.mjs): the forced cells as the released guide's own fill.sh prints them over the translation a3011878179ca535… (all of the seat's roots in one cut). By AI agents, Wed Nov 11 2026. No macro, syntax, notation, axiom, sorry.
-/
import Derived.Test.YtnadglhkghmdlaaChecked
import GoSem.Claim
import GoSem.ClaimJoined
import GoSem.ClaimMapViews
import Derived.JoinedTies
import Derived.KernelRfl
namespace Go.Proofs.Ytnadglhkghmdlaa
/- THE CELL 'sum', in the pinned program and in every row, IS THE sha256 OF THE DUMP (.gsa) THAT YtnadglhkghmdlaaProg.lean LOADS. Nothing in Lean hashes anything: it is a label: what it is worth is what the hold of that sum in a sandbox is worth. -/
noncomputable def Try.pinned : Pinned := { name := "ytnadglhkghmdlaa", sum := "a3011878179ca5350a35f02cebd03a6619c1bbe70b0f6179d88f4d47da70e042", checked := Try.checked }
namespace Rows
def none {H : Type} : Left H := { results := [], args := [] }

/-- 'pontagelaw22.TallyMany': WHATEVER THE INPUT: true; the input reads as it did. -/
def tallyManySpec : ChangeSpec := { name := "tallyMany", fn := fun _ => fun
  | [d] => { results := [.lit (.bool true)], args := [d] }
  | _ => none }
def tallyManyRow : OpenClaim := { program := "ytnadglhkghmdlaa", sum := "a3011878179ca5350a35f02cebd03a6619c1bbe70b0f6179d88f4d47da70e042", func := "pontage/pontagelaw22.TallyMany", spec := "tallyMany", apart := false }
def TallyManySaid : Prop := tallyManyRow.holds Try.pinned (OpenSpec.ofChange tallyManySpec)

/-- ITS FALSE NEIGHBOUR: 'it returns false'. Refute it at one input. -/
def tallyManyWrong : ChangeSpec := { name := "tallyMany", fn := fun _ => fun
  | [d] => { results := [.lit (.bool false)], args := [d] }
  | _ => none }
def TallyManyWrongFalsely : Prop := tallyManyRow.holds Try.pinned (OpenSpec.ofChange tallyManyWrong)

/-- 'pontagelaw22.TallyNames': WHATEVER THE INPUT: true; the input reads as it did. -/
def tallyNamesSpec : ChangeSpec := { name := "tallyNames", fn := fun _ => fun
  | [d1, d2] => { results := [.lit (.bool true)], args := [d1, d2] }
  | _ => none }
def tallyNamesRow : OpenClaim := { program := "ytnadglhkghmdlaa", sum := "a3011878179ca5350a35f02cebd03a6619c1bbe70b0f6179d88f4d47da70e042", func := "pontage/pontagelaw22.TallyNames", spec := "tallyNames", apart := false }
def TallyNamesSaid : Prop := tallyNamesRow.holds Try.pinned (OpenSpec.ofChange tallyNamesSpec)

/-- ITS FALSE NEIGHBOUR: 'it returns false'. Refute it at one input. -/
def tallyNamesWrong : ChangeSpec := { name := "tallyNames", fn := fun _ => fun
  | [d1, d2] => { results := [.lit (.bool false)], args := [d1, d2] }
  | _ => none }
def TallyNamesWrongFalsely : Prop := tallyNamesRow.holds Try.pinned (OpenSpec.ofChange tallyNamesWrong)

/-- 'pontagelaw22.TallyRuns': WHATEVER THE INPUT: true; the input reads as it did. -/
def tallyRunsSpec : ChangeSpec := { name := "tallyRuns", fn := fun _ => fun
  | [d1, d2] => { results := [.lit (.bool true)], args := [d1, d2] }
  | _ => none }
def tallyRunsRow : OpenClaim := { program := "ytnadglhkghmdlaa", sum := "a3011878179ca5350a35f02cebd03a6619c1bbe70b0f6179d88f4d47da70e042", func := "pontage/pontagelaw22.TallyRuns", spec := "tallyRuns", apart := false }
def TallyRunsSaid : Prop := tallyRunsRow.holds Try.pinned (OpenSpec.ofChange tallyRunsSpec)

/-- ITS FALSE NEIGHBOUR: 'it returns false'. Refute it at one input. -/
def tallyRunsWrong : ChangeSpec := { name := "tallyRuns", fn := fun _ => fun
  | [d1, d2] => { results := [.lit (.bool false)], args := [d1, d2] }
  | _ => none }
def TallyRunsWrongFalsely : Prop := tallyRunsRow.holds Try.pinned (OpenSpec.ofChange tallyRunsWrong)

/-- 'pontagelaw22.TallyDiffs': WHATEVER THE INPUT: true; the input reads as it did. -/
def tallyDiffsSpec : ChangeSpec := { name := "tallyDiffs", fn := fun _ => fun
  | [d1, d2, d3] => { results := [.lit (.bool true)], args := [d1, d2, d3] }
  | _ => none }
def tallyDiffsRow : OpenClaim := { program := "ytnadglhkghmdlaa", sum := "a3011878179ca5350a35f02cebd03a6619c1bbe70b0f6179d88f4d47da70e042", func := "pontage/pontagelaw22.TallyDiffs", spec := "tallyDiffs", apart := false }
def TallyDiffsSaid : Prop := tallyDiffsRow.holds Try.pinned (OpenSpec.ofChange tallyDiffsSpec)

/-- ITS FALSE NEIGHBOUR: 'it returns false'. Refute it at one input. -/
def tallyDiffsWrong : ChangeSpec := { name := "tallyDiffs", fn := fun _ => fun
  | [d1, d2, d3] => { results := [.lit (.bool false)], args := [d1, d2, d3] }
  | _ => none }
def TallyDiffsWrongFalsely : Prop := tallyDiffsRow.holds Try.pinned (OpenSpec.ofChange tallyDiffsWrong)

/-- 'pontagelaw22.TallyOwn': WHATEVER THE INPUT: true; the input reads as it did. -/
def tallyOwnSpec : ChangeSpec := { name := "tallyOwn", fn := fun _ => fun
  | [d1, d2] => { results := [.lit (.bool true)], args := [d1, d2] }
  | _ => none }
def tallyOwnRow : OpenClaim := { program := "ytnadglhkghmdlaa", sum := "a3011878179ca5350a35f02cebd03a6619c1bbe70b0f6179d88f4d47da70e042", func := "pontage/pontagelaw22.TallyOwn", spec := "tallyOwn", apart := false }
def TallyOwnSaid : Prop := tallyOwnRow.holds Try.pinned (OpenSpec.ofChange tallyOwnSpec)

/-- ITS FALSE NEIGHBOUR: 'it returns false'. Refute it at one input. -/
def tallyOwnWrong : ChangeSpec := { name := "tallyOwn", fn := fun _ => fun
  | [d1, d2] => { results := [.lit (.bool false)], args := [d1, d2] }
  | _ => none }
def TallyOwnWrongFalsely : Prop := tallyOwnRow.holds Try.pinned (OpenSpec.ofChange tallyOwnWrong)

/- THE SECOND FORM. 'bulk': how many values and letters a reading holds, each counted each time it is reached (what is shared counts as often as it is met; a slice's spare places count too). A statement '..UptoSaid' is the law's where the arguments, and the package variables that the reading takes, are together of bulk at most 1048576: NARROWER than '..Said'. Prove '..Said' where nothing that the law and all that it calls make is longer than what came in: it says more and counts as full. Else prove '..UptoSaid'. A law counts once. -/
mutual
def uptoBulk {H : Type} : DataW H → Nat
  | .lit (.string bytes) => bytes.length + 1
  | .lit _ => 1
  | .nil => 1
  | .ptr d => uptoBulk d + 1
  | .slice elems spare => uptoBulkAll elems + uptoBulkAll spare + 1
  | .agg parts => uptoBulkAll parts + 1
  | .iface _ d => uptoBulk d + 1
  | .map entries => uptoBulkEntries entries + 1
  | .held _ => 1
def uptoBulkAll {H : Type} : List (DataW H) → Nat
  | [] => 0
  | d :: r => uptoBulk d + uptoBulkAll r
def uptoBulkEntries {H : Type} : List (Lit × DataW H) → Nat
  | [] => 0
  | x :: r => uptoBulkEntry x + uptoBulkEntries r
def uptoBulkEntry {H : Type} : Lit × DataW H → Nat
  | (.string bytes, d) => bytes.length + uptoBulk d + 1
  | (_, d) => uptoBulk d + 1
 end
def uptoSmall : (H : Type) → List (DataW H) → Bool := fun _ ds => decide (uptoBulkAll ds ≤ 1048576)
def OpenSpec.upto (s : _root_.Go.ChangeSpec) : _root_.Go.OpenSpec := { _root_.Go.OpenSpec.ofChange s with cond := some uptoSmall }

/-- 'pontagelaw22.TallyMany', WHERE WHAT IT READS IS OF BULK AT MOST 1048576: true; the input reads as it did. -/
def tallyManyUptoRow : OpenClaim := { program := "ytnadglhkghmdlaa", sum := "a3011878179ca5350a35f02cebd03a6619c1bbe70b0f6179d88f4d47da70e042", func := "pontage/pontagelaw22.TallyMany", spec := "tallyMany", apart := false, narrowed := true }
def TallyManyUptoSaid : Prop := tallyManyUptoRow.holds Try.pinned (OpenSpec.upto tallyManySpec)

/-- 'pontagelaw22.TallyNames', WHERE WHAT IT READS IS OF BULK AT MOST 1048576: true; the input reads as it did. -/
def tallyNamesUptoRow : OpenClaim := { program := "ytnadglhkghmdlaa", sum := "a3011878179ca5350a35f02cebd03a6619c1bbe70b0f6179d88f4d47da70e042", func := "pontage/pontagelaw22.TallyNames", spec := "tallyNames", apart := false, narrowed := true }
def TallyNamesUptoSaid : Prop := tallyNamesUptoRow.holds Try.pinned (OpenSpec.upto tallyNamesSpec)

/-- 'pontagelaw22.TallyRuns', WHERE WHAT IT READS IS OF BULK AT MOST 1048576: true; the input reads as it did. -/
def tallyRunsUptoRow : OpenClaim := { program := "ytnadglhkghmdlaa", sum := "a3011878179ca5350a35f02cebd03a6619c1bbe70b0f6179d88f4d47da70e042", func := "pontage/pontagelaw22.TallyRuns", spec := "tallyRuns", apart := false, narrowed := true }
def TallyRunsUptoSaid : Prop := tallyRunsUptoRow.holds Try.pinned (OpenSpec.upto tallyRunsSpec)

/-- 'pontagelaw22.TallyDiffs', WHERE WHAT IT READS IS OF BULK AT MOST 1048576: true; the input reads as it did. -/
def tallyDiffsUptoRow : OpenClaim := { program := "ytnadglhkghmdlaa", sum := "a3011878179ca5350a35f02cebd03a6619c1bbe70b0f6179d88f4d47da70e042", func := "pontage/pontagelaw22.TallyDiffs", spec := "tallyDiffs", apart := false, narrowed := true }
def TallyDiffsUptoSaid : Prop := tallyDiffsUptoRow.holds Try.pinned (OpenSpec.upto tallyDiffsSpec)

/-- 'pontagelaw22.TallyOwn', WHERE WHAT IT READS IS OF BULK AT MOST 1048576: true; the input reads as it did. -/
def tallyOwnUptoRow : OpenClaim := { program := "ytnadglhkghmdlaa", sum := "a3011878179ca5350a35f02cebd03a6619c1bbe70b0f6179d88f4d47da70e042", func := "pontage/pontagelaw22.TallyOwn", spec := "tallyOwn", apart := false, narrowed := true }
def TallyOwnUptoSaid : Prop := tallyOwnUptoRow.holds Try.pinned (OpenSpec.upto tallyOwnSpec)

end Rows
end Go.Proofs.Ytnadglhkghmdlaa
