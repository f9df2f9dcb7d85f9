/-
  No cell of these rows narrows 'for every input' (looked for: loops, veiled, ifaces, maps, wideKeys, modest, calm, conditions, laid).
  DERIVED. THE GIVEN ROWS OF THIS SEAT. 7 by the template 'for every input the law returns true; each argument reads behind the call as it read before'; 0 by the template 'total and deterministic' (their statements: YthjfjnikbfdfaaaTotals.lean).
  GIVEN WITH THE SEED: the statements are not yours to turn. If you find one false, say at which input.
  Laid BY PROGRAM, IN A SANDBOX (cutbox-rows.mjs): the forced cells as the released guide's own fill.sh prints them over the translation ad83a1590f228b52… (all of the seat's roots in one cut). By AI agents, Wed Nov 11 2026. No macro, syntax, notation, axiom, sorry.
-/
import Derived.Test.YthjfjnikbfdfaaaChecked
import GoSem.Claim
import GoSem.ClaimJoined
import GoSem.ClaimMapViews
import Derived.JoinedTies
import Derived.KernelRfl
namespace Go.Proofs.Ythjfjnikbfdfaaa
/- THE CELL 'sum', in the pinned program and in every row, IS THE sha256 OF THE DUMP (.gsa) THAT YthjfjnikbfdfaaaProg.lean LOADS. Nothing in Lean hashes anything: it is a label: what it is worth is what the hold of that sum in a sandbox is worth. -/
noncomputable def Try.pinned : Pinned := { name := "ythjfjnikbfdfaaa", sum := "ad83a1590f228b522de06ee73b79324cebcc78f6d16878db3c8067802413eda2", checked := Try.checked }
namespace Rows
def none {H : Type} : Left H := { results := [], args := [] }

/-- 'pontagelaw14.ChangeTells': WHATEVER THE INPUT: true; the input reads as it did. -/
def changeTellsSpec : ChangeSpec := { name := "changeTells", fn := fun _ => fun
  | [d1, d2] => { results := [.lit (.bool true)], args := [d1, d2] }
  | _ => none }
def changeTellsRow : OpenClaim := { program := "ythjfjnikbfdfaaa", sum := "ad83a1590f228b522de06ee73b79324cebcc78f6d16878db3c8067802413eda2", func := "pontage/pontagelaw14.ChangeTells", spec := "changeTells", unfollowed := true, recurses := true, apart := false }
def ChangeTellsSaid : Prop := changeTellsRow.holds Try.pinned (OpenSpec.ofChange changeTellsSpec)

/-- ITS FALSE NEIGHBOUR: 'it returns false'. Refute it at one input. -/
def changeTellsWrong : ChangeSpec := { name := "changeTells", fn := fun _ => fun
  | [d1, d2] => { results := [.lit (.bool false)], args := [d1, d2] }
  | _ => none }
def ChangeTellsWrongFalsely : Prop := changeTellsRow.holds Try.pinned (OpenSpec.ofChange changeTellsWrong)

/-- 'pontagelaw14.ChangeSteps': WHATEVER THE INPUT: true; the input reads as it did. -/
def changeStepsSpec : ChangeSpec := { name := "changeSteps", fn := fun _ => fun
  | [d1, d2] => { results := [.lit (.bool true)], args := [d1, d2] }
  | _ => none }
def changeStepsRow : OpenClaim := { program := "ythjfjnikbfdfaaa", sum := "ad83a1590f228b522de06ee73b79324cebcc78f6d16878db3c8067802413eda2", func := "pontage/pontagelaw14.ChangeSteps", spec := "changeSteps", unfollowed := true, recurses := true, apart := false }
def ChangeStepsSaid : Prop := changeStepsRow.holds Try.pinned (OpenSpec.ofChange changeStepsSpec)

/-- ITS FALSE NEIGHBOUR: 'it returns false'. Refute it at one input. -/
def changeStepsWrong : ChangeSpec := { name := "changeSteps", fn := fun _ => fun
  | [d1, d2] => { results := [.lit (.bool false)], args := [d1, d2] }
  | _ => none }
def ChangeStepsWrongFalsely : Prop := changeStepsRow.holds Try.pinned (OpenSpec.ofChange changeStepsWrong)

/-- 'pontagelaw14.ChangeOthers': WHATEVER THE INPUT: true; the input reads as it did. -/
def changeOthersSpec : ChangeSpec := { name := "changeOthers", fn := fun _ => fun
  | [d1, d2] => { results := [.lit (.bool true)], args := [d1, d2] }
  | _ => none }
def changeOthersRow : OpenClaim := { program := "ythjfjnikbfdfaaa", sum := "ad83a1590f228b522de06ee73b79324cebcc78f6d16878db3c8067802413eda2", func := "pontage/pontagelaw14.ChangeOthers", spec := "changeOthers", unfollowed := true, recurses := true, apart := false }
def ChangeOthersSaid : Prop := changeOthersRow.holds Try.pinned (OpenSpec.ofChange changeOthersSpec)

/-- ITS FALSE NEIGHBOUR: 'it returns false'. Refute it at one input. -/
def changeOthersWrong : ChangeSpec := { name := "changeOthers", fn := fun _ => fun
  | [d1, d2] => { results := [.lit (.bool false)], args := [d1, d2] }
  | _ => none }
def ChangeOthersWrongFalsely : Prop := changeOthersRow.holds Try.pinned (OpenSpec.ofChange changeOthersWrong)

/-- 'pontagelaw14.ChangeRests': WHATEVER THE INPUT: true; the input reads as it did. -/
def changeRestsSpec : ChangeSpec := { name := "changeRests", fn := fun _ => fun
  | [d1, d2] => { results := [.lit (.bool true)], args := [d1, d2] }
  | _ => none }
def changeRestsRow : OpenClaim := { program := "ythjfjnikbfdfaaa", sum := "ad83a1590f228b522de06ee73b79324cebcc78f6d16878db3c8067802413eda2", func := "pontage/pontagelaw14.ChangeRests", spec := "changeRests", unfollowed := true, recurses := true, apart := false }
def ChangeRestsSaid : Prop := changeRestsRow.holds Try.pinned (OpenSpec.ofChange changeRestsSpec)

/-- ITS FALSE NEIGHBOUR: 'it returns false'. Refute it at one input. -/
def changeRestsWrong : ChangeSpec := { name := "changeRests", fn := fun _ => fun
  | [d1, d2] => { results := [.lit (.bool false)], args := [d1, d2] }
  | _ => none }
def ChangeRestsWrongFalsely : Prop := changeRestsRow.holds Try.pinned (OpenSpec.ofChange changeRestsWrong)

/-- 'pontagelaw14.ChangeFlushes': WHATEVER THE INPUT: true; the input reads as it did. -/
def changeFlushesSpec : ChangeSpec := { name := "changeFlushes", fn := fun _ => fun
  | [d1, d2] => { results := [.lit (.bool true)], args := [d1, d2] }
  | _ => none }
def changeFlushesRow : OpenClaim := { program := "ythjfjnikbfdfaaa", sum := "ad83a1590f228b522de06ee73b79324cebcc78f6d16878db3c8067802413eda2", func := "pontage/pontagelaw14.ChangeFlushes", spec := "changeFlushes", unfollowed := true, recurses := true, apart := false }
def ChangeFlushesSaid : Prop := changeFlushesRow.holds Try.pinned (OpenSpec.ofChange changeFlushesSpec)

/-- ITS FALSE NEIGHBOUR: 'it returns false'. Refute it at one input. -/
def changeFlushesWrong : ChangeSpec := { name := "changeFlushes", fn := fun _ => fun
  | [d1, d2] => { results := [.lit (.bool false)], args := [d1, d2] }
  | _ => none }
def ChangeFlushesWrongFalsely : Prop := changeFlushesRow.holds Try.pinned (OpenSpec.ofChange changeFlushesWrong)

/-- 'pontagelaw14.ChangeStates': WHATEVER THE INPUT: true; the input reads as it did. -/
def changeStatesSpec : ChangeSpec := { name := "changeStates", fn := fun _ => fun
  | [d] => { results := [.lit (.bool true)], args := [d] }
  | _ => none }
def changeStatesRow : OpenClaim := { program := "ythjfjnikbfdfaaa", sum := "ad83a1590f228b522de06ee73b79324cebcc78f6d16878db3c8067802413eda2", func := "pontage/pontagelaw14.ChangeStates", spec := "changeStates", unfollowed := true, recurses := true, apart := false }
def ChangeStatesSaid : Prop := changeStatesRow.holds Try.pinned (OpenSpec.ofChange changeStatesSpec)

/-- ITS FALSE NEIGHBOUR: 'it returns false'. Refute it at one input. -/
def changeStatesWrong : ChangeSpec := { name := "changeStates", fn := fun _ => fun
  | [d] => { results := [.lit (.bool false)], args := [d] }
  | _ => none }
def ChangeStatesWrongFalsely : Prop := changeStatesRow.holds Try.pinned (OpenSpec.ofChange changeStatesWrong)

/-- 'pontagelaw14.ChangeSettles': WHATEVER THE INPUT: true; the input reads as it did. -/
def changeSettlesSpec : ChangeSpec := { name := "changeSettles", fn := fun _ => fun
  | [d] => { results := [.lit (.bool true)], args := [d] }
  | _ => none }
def changeSettlesRow : OpenClaim := { program := "ythjfjnikbfdfaaa", sum := "ad83a1590f228b522de06ee73b79324cebcc78f6d16878db3c8067802413eda2", func := "pontage/pontagelaw14.ChangeSettles", spec := "changeSettles", unfollowed := true, recurses := true, apart := false }
def ChangeSettlesSaid : Prop := changeSettlesRow.holds Try.pinned (OpenSpec.ofChange changeSettlesSpec)

/-- ITS FALSE NEIGHBOUR: 'it returns false'. Refute it at one input. -/
def changeSettlesWrong : ChangeSpec := { name := "changeSettles", fn := fun _ => fun
  | [d] => { results := [.lit (.bool false)], args := [d] }
  | _ => none }
def ChangeSettlesWrongFalsely : Prop := changeSettlesRow.holds Try.pinned (OpenSpec.ofChange changeSettlesWrong)

/- THE SECOND FORM. 'bulk': how many values and letters a reading holds, each counted each time it is reached (what is shared counts as often as it is met; a slice's spare places count too). A statement '..UptoSaid' is the law's where the arguments, and the package variables that the reading takes, are together of bulk at most 1048576: NARROWER than '..Said'. Prove '..Said' where nothing that the law and all that it calls make is longer than what came in: it says more and counts as full. Else prove '..UptoSaid'. A law counts once. -/
mutual
def uptoBulk {H : Type} : DataW H → Nat
  | .lit (.string bytes) => bytes.length + 1
  | .lit _ => 1
  | .nil => 1
  | .ptr d => uptoBulk d + 1
  | .slice elems spare => uptoBulkAll elems + uptoBulkAll spare + 1
  | .agg parts => uptoBulkAll parts + 1
  | .iface _ d => uptoBulk d + 1
  | .map entries => uptoBulkEntries entries + 1
  | .held _ => 1
def uptoBulkAll {H : Type} : List (DataW H) → Nat
  | [] => 0
  | d :: r => uptoBulk d + uptoBulkAll r
def uptoBulkEntries {H : Type} : List (Lit × DataW H) → Nat
  | [] => 0
  | x :: r => uptoBulkEntry x + uptoBulkEntries r
def uptoBulkEntry {H : Type} : Lit × DataW H → Nat
  | (.string bytes, d) => bytes.length + uptoBulk d + 1
  | (_, d) => uptoBulk d + 1
 end
def uptoSmall : (H : Type) → List (DataW H) → Bool := fun _ ds => decide (uptoBulkAll ds ≤ 1048576)
def OpenSpec.upto (s : _root_.Go.ChangeSpec) : _root_.Go.OpenSpec := { _root_.Go.OpenSpec.ofChange s with cond := some uptoSmall }

/-- 'pontagelaw14.ChangeTells', WHERE WHAT IT READS IS OF BULK AT MOST 1048576: true; the input reads as it did. -/
def changeTellsUptoRow : OpenClaim := { program := "ythjfjnikbfdfaaa", sum := "ad83a1590f228b522de06ee73b79324cebcc78f6d16878db3c8067802413eda2", func := "pontage/pontagelaw14.ChangeTells", spec := "changeTells", unfollowed := true, recurses := true, apart := false, narrowed := true }
def ChangeTellsUptoSaid : Prop := changeTellsUptoRow.holds Try.pinned (OpenSpec.upto changeTellsSpec)

/-- 'pontagelaw14.ChangeSteps', WHERE WHAT IT READS IS OF BULK AT MOST 1048576: true; the input reads as it did. -/
def changeStepsUptoRow : OpenClaim := { program := "ythjfjnikbfdfaaa", sum := "ad83a1590f228b522de06ee73b79324cebcc78f6d16878db3c8067802413eda2", func := "pontage/pontagelaw14.ChangeSteps", spec := "changeSteps", unfollowed := true, recurses := true, apart := false, narrowed := true }
def ChangeStepsUptoSaid : Prop := changeStepsUptoRow.holds Try.pinned (OpenSpec.upto changeStepsSpec)

/-- 'pontagelaw14.ChangeOthers', WHERE WHAT IT READS IS OF BULK AT MOST 1048576: true; the input reads as it did. -/
def changeOthersUptoRow : OpenClaim := { program := "ythjfjnikbfdfaaa", sum := "ad83a1590f228b522de06ee73b79324cebcc78f6d16878db3c8067802413eda2", func := "pontage/pontagelaw14.ChangeOthers", spec := "changeOthers", unfollowed := true, recurses := true, apart := false, narrowed := true }
def ChangeOthersUptoSaid : Prop := changeOthersUptoRow.holds Try.pinned (OpenSpec.upto changeOthersSpec)

/-- 'pontagelaw14.ChangeRests', WHERE WHAT IT READS IS OF BULK AT MOST 1048576: true; the input reads as it did. -/
def changeRestsUptoRow : OpenClaim := { program := "ythjfjnikbfdfaaa", sum := "ad83a1590f228b522de06ee73b79324cebcc78f6d16878db3c8067802413eda2", func := "pontage/pontagelaw14.ChangeRests", spec := "changeRests", unfollowed := true, recurses := true, apart := false, narrowed := true }
def ChangeRestsUptoSaid : Prop := changeRestsUptoRow.holds Try.pinned (OpenSpec.upto changeRestsSpec)

/-- 'pontagelaw14.ChangeFlushes', WHERE WHAT IT READS IS OF BULK AT MOST 1048576: true; the input reads as it did. -/
def changeFlushesUptoRow : OpenClaim := { program := "ythjfjnikbfdfaaa", sum := "ad83a1590f228b522de06ee73b79324cebcc78f6d16878db3c8067802413eda2", func := "pontage/pontagelaw14.ChangeFlushes", spec := "changeFlushes", unfollowed := true, recurses := true, apart := false, narrowed := true }
def ChangeFlushesUptoSaid : Prop := changeFlushesUptoRow.holds Try.pinned (OpenSpec.upto changeFlushesSpec)

/-- 'pontagelaw14.ChangeStates', WHERE WHAT IT READS IS OF BULK AT MOST 1048576: true; the input reads as it did. -/
def changeStatesUptoRow : OpenClaim := { program := "ythjfjnikbfdfaaa", sum := "ad83a1590f228b522de06ee73b79324cebcc78f6d16878db3c8067802413eda2", func := "pontage/pontagelaw14.ChangeStates", spec := "changeStates", unfollowed := true, recurses := true, apart := false, narrowed := true }
def ChangeStatesUptoSaid : Prop := changeStatesUptoRow.holds Try.pinned (OpenSpec.upto changeStatesSpec)

/-- 'pontagelaw14.ChangeSettles', WHERE WHAT IT READS IS OF BULK AT MOST 1048576: true; the input reads as it did. -/
def changeSettlesUptoRow : OpenClaim := { program := "ythjfjnikbfdfaaa", sum := "ad83a1590f228b522de06ee73b79324cebcc78f6d16878db3c8067802413eda2", func := "pontage/pontagelaw14.ChangeSettles", spec := "changeSettles", unfollowed := true, recurses := true, apart := false, narrowed := true }
def ChangeSettlesUptoSaid : Prop := changeSettlesUptoRow.holds Try.pinned (OpenSpec.upto changeSettlesSpec)

end Rows
end Go.Proofs.Ythjfjnikbfdfaaa
