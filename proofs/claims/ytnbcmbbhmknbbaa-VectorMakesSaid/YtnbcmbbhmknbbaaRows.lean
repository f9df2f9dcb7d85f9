/-
  No cell of these rows narrows 'for every input' (looked for: loops, veiled, ifaces, maps, wideKeys, modest, calm, conditions, laid).
  DERIVED. THE GIVEN ROWS OF THIS SEAT. 7 by the template 'for every input the law returns true; each argument reads behind the call as it read before'; 0 by the template 'total and deterministic' (their statements: YtnbcmbbhmknbbaaTotals.lean).
  GIVEN WITH THE SEED: the statements are not yours to turn. If you find one false, say at which input.
  Laid BY PROGRAM, IN A SANDBOX (cutbox-rows.mjs): the forced cells as the released guide's own fill.sh prints them over the translation d51af872690db791… (all of the seat's roots in one cut). By AI agents, Wed Nov 11 2026. No macro, syntax, notation, axiom, sorry.
-/
import Derived.Test.YtnbcmbbhmknbbaaChecked
import GoSem.Claim
import GoSem.ClaimJoined
import GoSem.ClaimMapViews
import Derived.JoinedTies
import Derived.KernelRfl
namespace Go.Proofs.Ytnbcmbbhmknbbaa
/- THE CELL 'sum', in the pinned program and in every row, IS THE sha256 OF THE DUMP (.gsa) THAT YtnbcmbbhmknbbaaProg.lean LOADS. Nothing in Lean hashes anything: it is a label: what it is worth is what the hold of that sum in a sandbox is worth. -/
noncomputable def Try.pinned : Pinned := { name := "ytnbcmbbhmknbbaa", sum := "d51af872690db7911b887883048dd42bb4eaa0201e0f21ab999318c6d42b9a75", checked := Try.checked }
namespace Rows
def none {H : Type} : Left H := { results := [], args := [] }

/-- 'pontagelaw06.VectorCompares': WHATEVER THE INPUT: true; the input reads as it did. -/
def vectorComparesSpec : ChangeSpec := { name := "vectorCompares", fn := fun _ => fun
  | [d1, d2] => { results := [.lit (.bool true)], args := [d1, d2] }
  | _ => none }
def vectorComparesRow : OpenClaim := { program := "ytnbcmbbhmknbbaa", sum := "d51af872690db7911b887883048dd42bb4eaa0201e0f21ab999318c6d42b9a75", func := "pontage/pontagelaw06.VectorCompares", spec := "vectorCompares", apart := false }
def VectorComparesSaid : Prop := vectorComparesRow.holds Try.pinned (OpenSpec.ofChange vectorComparesSpec)

/-- ITS FALSE NEIGHBOUR: 'it returns false'. Refute it at one input. -/
def vectorComparesWrong : ChangeSpec := { name := "vectorCompares", fn := fun _ => fun
  | [d1, d2] => { results := [.lit (.bool false)], args := [d1, d2] }
  | _ => none }
def VectorComparesWrongFalsely : Prop := vectorComparesRow.holds Try.pinned (OpenSpec.ofChange vectorComparesWrong)

/-- 'pontagelaw06.VectorOrder': WHATEVER THE INPUT: true; the input reads as it did. -/
def vectorOrderSpec : ChangeSpec := { name := "vectorOrder", fn := fun _ => fun
  | [d1, d2, d3] => { results := [.lit (.bool true)], args := [d1, d2, d3] }
  | _ => none }
def vectorOrderRow : OpenClaim := { program := "ytnbcmbbhmknbbaa", sum := "d51af872690db7911b887883048dd42bb4eaa0201e0f21ab999318c6d42b9a75", func := "pontage/pontagelaw06.VectorOrder", spec := "vectorOrder", apart := false }
def VectorOrderSaid : Prop := vectorOrderRow.holds Try.pinned (OpenSpec.ofChange vectorOrderSpec)

/-- ITS FALSE NEIGHBOUR: 'it returns false'. Refute it at one input. -/
def vectorOrderWrong : ChangeSpec := { name := "vectorOrder", fn := fun _ => fun
  | [d1, d2, d3] => { results := [.lit (.bool false)], args := [d1, d2, d3] }
  | _ => none }
def VectorOrderWrongFalsely : Prop := vectorOrderRow.holds Try.pinned (OpenSpec.ofChange vectorOrderWrong)

/-- 'pontagelaw06.VectorCosts': WHATEVER THE INPUT: true; the input reads as it did. -/
def vectorCostsSpec : ChangeSpec := { name := "vectorCosts", fn := fun _ => fun
  | [d1, d2, d3] => { results := [.lit (.bool true)], args := [d1, d2, d3] }
  | _ => none }
def vectorCostsRow : OpenClaim := { program := "ytnbcmbbhmknbbaa", sum := "d51af872690db7911b887883048dd42bb4eaa0201e0f21ab999318c6d42b9a75", func := "pontage/pontagelaw06.VectorCosts", spec := "vectorCosts", apart := false }
def VectorCostsSaid : Prop := vectorCostsRow.holds Try.pinned (OpenSpec.ofChange vectorCostsSpec)

/-- ITS FALSE NEIGHBOUR: 'it returns false'. Refute it at one input. -/
def vectorCostsWrong : ChangeSpec := { name := "vectorCosts", fn := fun _ => fun
  | [d1, d2, d3] => { results := [.lit (.bool false)], args := [d1, d2, d3] }
  | _ => none }
def VectorCostsWrongFalsely : Prop := vectorCostsRow.holds Try.pinned (OpenSpec.ofChange vectorCostsWrong)

/-- 'pontagelaw06.VectorMakes': WHATEVER THE INPUT: true; the input reads as it did. -/
def vectorMakesSpec : ChangeSpec := { name := "vectorMakes", fn := fun _ => fun
  | [d1, d2, d3, d4] => { results := [.lit (.bool true)], args := [d1, d2, d3, d4] }
  | _ => none }
def vectorMakesRow : OpenClaim := { program := "ytnbcmbbhmknbbaa", sum := "d51af872690db7911b887883048dd42bb4eaa0201e0f21ab999318c6d42b9a75", func := "pontage/pontagelaw06.VectorMakes", spec := "vectorMakes", apart := false }
def VectorMakesSaid : Prop := vectorMakesRow.holds Try.pinned (OpenSpec.ofChange vectorMakesSpec)

/-- ITS FALSE NEIGHBOUR: 'it returns false'. Refute it at one input. -/
def vectorMakesWrong : ChangeSpec := { name := "vectorMakes", fn := fun _ => fun
  | [d1, d2, d3, d4] => { results := [.lit (.bool false)], args := [d1, d2, d3, d4] }
  | _ => none }
def VectorMakesWrongFalsely : Prop := vectorMakesRow.holds Try.pinned (OpenSpec.ofChange vectorMakesWrong)

/-- 'pontagelaw06.VectorTimes': WHATEVER THE INPUT: true; the input reads as it did. -/
def vectorTimesSpec : ChangeSpec := { name := "vectorTimes", fn := fun _ => fun
  | [d] => { results := [.lit (.bool true)], args := [d] }
  | _ => none }
def vectorTimesRow : OpenClaim := { program := "ytnbcmbbhmknbbaa", sum := "d51af872690db7911b887883048dd42bb4eaa0201e0f21ab999318c6d42b9a75", func := "pontage/pontagelaw06.VectorTimes", spec := "vectorTimes", apart := false }
def VectorTimesSaid : Prop := vectorTimesRow.holds Try.pinned (OpenSpec.ofChange vectorTimesSpec)

/-- ITS FALSE NEIGHBOUR: 'it returns false'. Refute it at one input. -/
def vectorTimesWrong : ChangeSpec := { name := "vectorTimes", fn := fun _ => fun
  | [d] => { results := [.lit (.bool false)], args := [d] }
  | _ => none }
def VectorTimesWrongFalsely : Prop := vectorTimesRow.holds Try.pinned (OpenSpec.ofChange vectorTimesWrong)

/-- 'pontagelaw06.VectorNumbers': WHATEVER THE INPUT: true; the input reads as it did. -/
def vectorNumbersSpec : ChangeSpec := { name := "vectorNumbers", fn := fun _ => fun
  | [d1, d2, d3, d4] => { results := [.lit (.bool true)], args := [d1, d2, d3, d4] }
  | _ => none }
def vectorNumbersRow : OpenClaim := { program := "ytnbcmbbhmknbbaa", sum := "d51af872690db7911b887883048dd42bb4eaa0201e0f21ab999318c6d42b9a75", func := "pontage/pontagelaw06.VectorNumbers", spec := "vectorNumbers", apart := false }
def VectorNumbersSaid : Prop := vectorNumbersRow.holds Try.pinned (OpenSpec.ofChange vectorNumbersSpec)

/-- ITS FALSE NEIGHBOUR: 'it returns false'. Refute it at one input. -/
def vectorNumbersWrong : ChangeSpec := { name := "vectorNumbers", fn := fun _ => fun
  | [d1, d2, d3, d4] => { results := [.lit (.bool false)], args := [d1, d2, d3, d4] }
  | _ => none }
def VectorNumbersWrongFalsely : Prop := vectorNumbersRow.holds Try.pinned (OpenSpec.ofChange vectorNumbersWrong)

/-- 'pontagelaw06.VectorBack': WHATEVER THE INPUT: true; the input reads as it did. -/
def vectorBackSpec : ChangeSpec := { name := "vectorBack", fn := fun _ => fun
  | [d1, d2, d3] => { results := [.lit (.bool true)], args := [d1, d2, d3] }
  | _ => none }
def vectorBackRow : OpenClaim := { program := "ytnbcmbbhmknbbaa", sum := "d51af872690db7911b887883048dd42bb4eaa0201e0f21ab999318c6d42b9a75", func := "pontage/pontagelaw06.VectorBack", spec := "vectorBack", apart := false }
def VectorBackSaid : Prop := vectorBackRow.holds Try.pinned (OpenSpec.ofChange vectorBackSpec)

/-- ITS FALSE NEIGHBOUR: 'it returns false'. Refute it at one input. -/
def vectorBackWrong : ChangeSpec := { name := "vectorBack", fn := fun _ => fun
  | [d1, d2, d3] => { results := [.lit (.bool false)], args := [d1, d2, d3] }
  | _ => none }
def VectorBackWrongFalsely : Prop := vectorBackRow.holds Try.pinned (OpenSpec.ofChange vectorBackWrong)

/- THE SECOND FORM. 'bulk': how many values and letters a reading holds, each counted each time it is reached (what is shared counts as often as it is met; a slice's spare places count too). A statement '..UptoSaid' is the law's where the arguments, and the package variables that the reading takes, are together of bulk at most 1048576: NARROWER than '..Said'. Prove '..Said' where nothing that the law and all that it calls make is longer than what came in: it says more and counts as full. Else prove '..UptoSaid'. A law counts once. -/
mutual
def uptoBulk {H : Type} : DataW H → Nat
  | .lit (.string bytes) => bytes.length + 1
  | .lit _ => 1
  | .nil => 1
  | .ptr d => uptoBulk d + 1
  | .slice elems spare => uptoBulkAll elems + uptoBulkAll spare + 1
  | .agg parts => uptoBulkAll parts + 1
  | .iface _ d => uptoBulk d + 1
  | .map entries => uptoBulkEntries entries + 1
  | .held _ => 1
def uptoBulkAll {H : Type} : List (DataW H) → Nat
  | [] => 0
  | d :: r => uptoBulk d + uptoBulkAll r
def uptoBulkEntries {H : Type} : List (Lit × DataW H) → Nat
  | [] => 0
  | x :: r => uptoBulkEntry x + uptoBulkEntries r
def uptoBulkEntry {H : Type} : Lit × DataW H → Nat
  | (.string bytes, d) => bytes.length + uptoBulk d + 1
  | (_, d) => uptoBulk d + 1
 end
def uptoSmall : (H : Type) → List (DataW H) → Bool := fun _ ds => decide (uptoBulkAll ds ≤ 1048576)
def OpenSpec.upto (s : _root_.Go.ChangeSpec) : _root_.Go.OpenSpec := { _root_.Go.OpenSpec.ofChange s with cond := some uptoSmall }

/-- 'pontagelaw06.VectorCompares', WHERE WHAT IT READS IS OF BULK AT MOST 1048576: true; the input reads as it did. -/
def vectorComparesUptoRow : OpenClaim := { program := "ytnbcmbbhmknbbaa", sum := "d51af872690db7911b887883048dd42bb4eaa0201e0f21ab999318c6d42b9a75", func := "pontage/pontagelaw06.VectorCompares", spec := "vectorCompares", apart := false, narrowed := true }
def VectorComparesUptoSaid : Prop := vectorComparesUptoRow.holds Try.pinned (OpenSpec.upto vectorComparesSpec)

/-- 'pontagelaw06.VectorOrder', WHERE WHAT IT READS IS OF BULK AT MOST 1048576: true; the input reads as it did. -/
def vectorOrderUptoRow : OpenClaim := { program := "ytnbcmbbhmknbbaa", sum := "d51af872690db7911b887883048dd42bb4eaa0201e0f21ab999318c6d42b9a75", func := "pontage/pontagelaw06.VectorOrder", spec := "vectorOrder", apart := false, narrowed := true }
def VectorOrderUptoSaid : Prop := vectorOrderUptoRow.holds Try.pinned (OpenSpec.upto vectorOrderSpec)

/-- 'pontagelaw06.VectorCosts', WHERE WHAT IT READS IS OF BULK AT MOST 1048576: true; the input reads as it did. -/
def vectorCostsUptoRow : OpenClaim := { program := "ytnbcmbbhmknbbaa", sum := "d51af872690db7911b887883048dd42bb4eaa0201e0f21ab999318c6d42b9a75", func := "pontage/pontagelaw06.VectorCosts", spec := "vectorCosts", apart := false, narrowed := true }
def VectorCostsUptoSaid : Prop := vectorCostsUptoRow.holds Try.pinned (OpenSpec.upto vectorCostsSpec)

/-- 'pontagelaw06.VectorMakes', WHERE WHAT IT READS IS OF BULK AT MOST 1048576: true; the input reads as it did. -/
def vectorMakesUptoRow : OpenClaim := { program := "ytnbcmbbhmknbbaa", sum := "d51af872690db7911b887883048dd42bb4eaa0201e0f21ab999318c6d42b9a75", func := "pontage/pontagelaw06.VectorMakes", spec := "vectorMakes", apart := false, narrowed := true }
def VectorMakesUptoSaid : Prop := vectorMakesUptoRow.holds Try.pinned (OpenSpec.upto vectorMakesSpec)

/-- 'pontagelaw06.VectorTimes', WHERE WHAT IT READS IS OF BULK AT MOST 1048576: true; the input reads as it did. -/
def vectorTimesUptoRow : OpenClaim := { program := "ytnbcmbbhmknbbaa", sum := "d51af872690db7911b887883048dd42bb4eaa0201e0f21ab999318c6d42b9a75", func := "pontage/pontagelaw06.VectorTimes", spec := "vectorTimes", apart := false, narrowed := true }
def VectorTimesUptoSaid : Prop := vectorTimesUptoRow.holds Try.pinned (OpenSpec.upto vectorTimesSpec)

/-- 'pontagelaw06.VectorNumbers', WHERE WHAT IT READS IS OF BULK AT MOST 1048576: true; the input reads as it did. -/
def vectorNumbersUptoRow : OpenClaim := { program := "ytnbcmbbhmknbbaa", sum := "d51af872690db7911b887883048dd42bb4eaa0201e0f21ab999318c6d42b9a75", func := "pontage/pontagelaw06.VectorNumbers", spec := "vectorNumbers", apart := false, narrowed := true }
def VectorNumbersUptoSaid : Prop := vectorNumbersUptoRow.holds Try.pinned (OpenSpec.upto vectorNumbersSpec)

/-- 'pontagelaw06.VectorBack', WHERE WHAT IT READS IS OF BULK AT MOST 1048576: true; the input reads as it did. -/
def vectorBackUptoRow : OpenClaim := { program := "ytnbcmbbhmknbbaa", sum := "d51af872690db7911b887883048dd42bb4eaa0201e0f21ab999318c6d42b9a75", func := "pontage/pontagelaw06.VectorBack", spec := "vectorBack", apart := false, narrowed := true }
def VectorBackUptoSaid : Prop := vectorBackUptoRow.holds Try.pinned (OpenSpec.upto vectorBackSpec)

end Rows
end Go.Proofs.Ytnbcmbbhmknbbaa
