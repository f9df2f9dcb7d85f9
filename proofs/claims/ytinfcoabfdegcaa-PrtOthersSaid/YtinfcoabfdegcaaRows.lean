/-
  No cell of these rows narrows 'for every input' (looked for: loops, veiled, ifaces, maps, wideKeys, modest, calm, conditions, laid).
  DERIVED. THE GIVEN ROWS OF THIS SEAT. 5 by the template 'for every input the law returns true; each argument reads behind the call as it read before'; 0 by the template 'total and deterministic' (their statements: YtinfcoabfdegcaaTotals.lean).
  GIVEN WITH THE SEED: the statements are not yours to turn. If you find one false, say at which input.
  Laid BY PROGRAM, IN A SANDBOX (cutbox-rows.mjs): the forced cells as the released guide's own fill.sh prints them over the translation 9a3ff4b1cd088ad1… (all of the seat's roots in one cut). By AI agents, Wed Nov 11 2026. No macro, syntax, notation, axiom, sorry.
-/
import Derived.Test.YtinfcoabfdegcaaChecked
import GoSem.Claim
import GoSem.ClaimJoined
import GoSem.ClaimMapViews
import Derived.JoinedTies
import Derived.KernelRfl
namespace Go.Proofs.Ytinfcoabfdegcaa
/- THE CELL 'sum', in the pinned program and in every row, IS THE sha256 OF THE DUMP (.gsa) THAT YtinfcoabfdegcaaProg.lean LOADS. Nothing in Lean hashes anything: it is a label: what it is worth is what the hold of that sum in a sandbox is worth. -/
noncomputable def Try.pinned : Pinned := { name := "ytinfcoabfdegcaa", sum := "9a3ff4b1cd088ad1b251b5780f44c575601f955e643af63f9d9619bd0809e38e", checked := Try.checked }
namespace Rows
def none {H : Type} : Left H := { results := [], args := [] }

/-- 'pontagelaw13.PrtSteps': WHATEVER THE INPUT: true; the input reads as it did. -/
def prtStepsSpec : ChangeSpec := { name := "prtSteps", fn := fun _ => fun
  | [d1, d2] => { results := [.lit (.bool true)], args := [d1, d2] }
  | _ => none }
def prtStepsRow : OpenClaim := { program := "ytinfcoabfdegcaa", sum := "9a3ff4b1cd088ad1b251b5780f44c575601f955e643af63f9d9619bd0809e38e", func := "pontage/pontagelaw13.PrtSteps", spec := "prtSteps", unfollowed := true, recurses := true, apart := false }
def PrtStepsSaid : Prop := prtStepsRow.holds Try.pinned (OpenSpec.ofChange prtStepsSpec)

/-- ITS FALSE NEIGHBOUR: 'it returns false'. Refute it at one input. -/
def prtStepsWrong : ChangeSpec := { name := "prtSteps", fn := fun _ => fun
  | [d1, d2] => { results := [.lit (.bool false)], args := [d1, d2] }
  | _ => none }
def PrtStepsWrongFalsely : Prop := prtStepsRow.holds Try.pinned (OpenSpec.ofChange prtStepsWrong)

/-- 'pontagelaw13.PrtForwards': WHATEVER THE INPUT: true; the input reads as it did. -/
def prtForwardsSpec : ChangeSpec := { name := "prtForwards", fn := fun _ => fun
  | [d1, d2] => { results := [.lit (.bool true)], args := [d1, d2] }
  | _ => none }
def prtForwardsRow : OpenClaim := { program := "ytinfcoabfdegcaa", sum := "9a3ff4b1cd088ad1b251b5780f44c575601f955e643af63f9d9619bd0809e38e", func := "pontage/pontagelaw13.PrtForwards", spec := "prtForwards", unfollowed := true, recurses := true, apart := false }
def PrtForwardsSaid : Prop := prtForwardsRow.holds Try.pinned (OpenSpec.ofChange prtForwardsSpec)

/-- ITS FALSE NEIGHBOUR: 'it returns false'. Refute it at one input. -/
def prtForwardsWrong : ChangeSpec := { name := "prtForwards", fn := fun _ => fun
  | [d1, d2] => { results := [.lit (.bool false)], args := [d1, d2] }
  | _ => none }
def PrtForwardsWrongFalsely : Prop := prtForwardsRow.holds Try.pinned (OpenSpec.ofChange prtForwardsWrong)

/-- 'pontagelaw13.PrtOthers': WHATEVER THE INPUT: true; the input reads as it did. -/
def prtOthersSpec : ChangeSpec := { name := "prtOthers", fn := fun _ => fun
  | [d1, d2] => { results := [.lit (.bool true)], args := [d1, d2] }
  | _ => none }
def prtOthersRow : OpenClaim := { program := "ytinfcoabfdegcaa", sum := "9a3ff4b1cd088ad1b251b5780f44c575601f955e643af63f9d9619bd0809e38e", func := "pontage/pontagelaw13.PrtOthers", spec := "prtOthers", unfollowed := true, recurses := true, apart := false }
def PrtOthersSaid : Prop := prtOthersRow.holds Try.pinned (OpenSpec.ofChange prtOthersSpec)

/-- ITS FALSE NEIGHBOUR: 'it returns false'. Refute it at one input. -/
def prtOthersWrong : ChangeSpec := { name := "prtOthers", fn := fun _ => fun
  | [d1, d2] => { results := [.lit (.bool false)], args := [d1, d2] }
  | _ => none }
def PrtOthersWrongFalsely : Prop := prtOthersRow.holds Try.pinned (OpenSpec.ofChange prtOthersWrong)

/-- 'pontagelaw13.PrtAgrees': WHATEVER THE INPUT: true; the input reads as it did. -/
def prtAgreesSpec : ChangeSpec := { name := "prtAgrees", fn := fun _ => fun
  | [d1, d2] => { results := [.lit (.bool true)], args := [d1, d2] }
  | _ => none }
def prtAgreesRow : OpenClaim := { program := "ytinfcoabfdegcaa", sum := "9a3ff4b1cd088ad1b251b5780f44c575601f955e643af63f9d9619bd0809e38e", func := "pontage/pontagelaw13.PrtAgrees", spec := "prtAgrees", unfollowed := true, recurses := true, apart := false }
def PrtAgreesSaid : Prop := prtAgreesRow.holds Try.pinned (OpenSpec.ofChange prtAgreesSpec)

/-- ITS FALSE NEIGHBOUR: 'it returns false'. Refute it at one input. -/
def prtAgreesWrong : ChangeSpec := { name := "prtAgrees", fn := fun _ => fun
  | [d1, d2] => { results := [.lit (.bool false)], args := [d1, d2] }
  | _ => none }
def PrtAgreesWrongFalsely : Prop := prtAgreesRow.holds Try.pinned (OpenSpec.ofChange prtAgreesWrong)

/-- 'pontagelaw13.PrtHeld': WHATEVER THE INPUT: true; the input reads as it did. -/
def prtHeldSpec : ChangeSpec := { name := "prtHeld", fn := fun _ => fun
  | [d1, d2, d3] => { results := [.lit (.bool true)], args := [d1, d2, d3] }
  | _ => none }
def prtHeldRow : OpenClaim := { program := "ytinfcoabfdegcaa", sum := "9a3ff4b1cd088ad1b251b5780f44c575601f955e643af63f9d9619bd0809e38e", func := "pontage/pontagelaw13.PrtHeld", spec := "prtHeld", unfollowed := true, recurses := true, apart := false }
def PrtHeldSaid : Prop := prtHeldRow.holds Try.pinned (OpenSpec.ofChange prtHeldSpec)

/-- ITS FALSE NEIGHBOUR: 'it returns false'. Refute it at one input. -/
def prtHeldWrong : ChangeSpec := { name := "prtHeld", fn := fun _ => fun
  | [d1, d2, d3] => { results := [.lit (.bool false)], args := [d1, d2, d3] }
  | _ => none }
def PrtHeldWrongFalsely : Prop := prtHeldRow.holds Try.pinned (OpenSpec.ofChange prtHeldWrong)

/- THE SECOND FORM. 'bulk': how many values and letters a reading holds, each counted each time it is reached (what is shared counts as often as it is met; a slice's spare places count too). A statement '..UptoSaid' is the law's where the arguments, and the package variables that the reading takes, are together of bulk at most 1048576: NARROWER than '..Said'. Prove '..Said' where nothing that the law and all that it calls make is longer than what came in: it says more and counts as full. Else prove '..UptoSaid'. A law counts once. -/
mutual
def uptoBulk {H : Type} : DataW H → Nat
  | .lit (.string bytes) => bytes.length + 1
  | .lit _ => 1
  | .nil => 1
  | .ptr d => uptoBulk d + 1
  | .slice elems spare => uptoBulkAll elems + uptoBulkAll spare + 1
  | .agg parts => uptoBulkAll parts + 1
  | .iface _ d => uptoBulk d + 1
  | .map entries => uptoBulkEntries entries + 1
  | .held _ => 1
def uptoBulkAll {H : Type} : List (DataW H) → Nat
  | [] => 0
  | d :: r => uptoBulk d + uptoBulkAll r
def uptoBulkEntries {H : Type} : List (Lit × DataW H) → Nat
  | [] => 0
  | x :: r => uptoBulkEntry x + uptoBulkEntries r
def uptoBulkEntry {H : Type} : Lit × DataW H → Nat
  | (.string bytes, d) => bytes.length + uptoBulk d + 1
  | (_, d) => uptoBulk d + 1
 end
def uptoSmall : (H : Type) → List (DataW H) → Bool := fun _ ds => decide (uptoBulkAll ds ≤ 1048576)
def OpenSpec.upto (s : _root_.Go.ChangeSpec) : _root_.Go.OpenSpec := { _root_.Go.OpenSpec.ofChange s with cond := some uptoSmall }

/-- 'pontagelaw13.PrtSteps', WHERE WHAT IT READS IS OF BULK AT MOST 1048576: true; the input reads as it did. -/
def prtStepsUptoRow : OpenClaim := { program := "ytinfcoabfdegcaa", sum := "9a3ff4b1cd088ad1b251b5780f44c575601f955e643af63f9d9619bd0809e38e", func := "pontage/pontagelaw13.PrtSteps", spec := "prtSteps", unfollowed := true, recurses := true, apart := false, narrowed := true }
def PrtStepsUptoSaid : Prop := prtStepsUptoRow.holds Try.pinned (OpenSpec.upto prtStepsSpec)

/-- 'pontagelaw13.PrtForwards', WHERE WHAT IT READS IS OF BULK AT MOST 1048576: true; the input reads as it did. -/
def prtForwardsUptoRow : OpenClaim := { program := "ytinfcoabfdegcaa", sum := "9a3ff4b1cd088ad1b251b5780f44c575601f955e643af63f9d9619bd0809e38e", func := "pontage/pontagelaw13.PrtForwards", spec := "prtForwards", unfollowed := true, recurses := true, apart := false, narrowed := true }
def PrtForwardsUptoSaid : Prop := prtForwardsUptoRow.holds Try.pinned (OpenSpec.upto prtForwardsSpec)

/-- 'pontagelaw13.PrtOthers', WHERE WHAT IT READS IS OF BULK AT MOST 1048576: true; the input reads as it did. -/
def prtOthersUptoRow : OpenClaim := { program := "ytinfcoabfdegcaa", sum := "9a3ff4b1cd088ad1b251b5780f44c575601f955e643af63f9d9619bd0809e38e", func := "pontage/pontagelaw13.PrtOthers", spec := "prtOthers", unfollowed := true, recurses := true, apart := false, narrowed := true }
def PrtOthersUptoSaid : Prop := prtOthersUptoRow.holds Try.pinned (OpenSpec.upto prtOthersSpec)

/-- 'pontagelaw13.PrtAgrees', WHERE WHAT IT READS IS OF BULK AT MOST 1048576: true; the input reads as it did. -/
def prtAgreesUptoRow : OpenClaim := { program := "ytinfcoabfdegcaa", sum := "9a3ff4b1cd088ad1b251b5780f44c575601f955e643af63f9d9619bd0809e38e", func := "pontage/pontagelaw13.PrtAgrees", spec := "prtAgrees", unfollowed := true, recurses := true, apart := false, narrowed := true }
def PrtAgreesUptoSaid : Prop := prtAgreesUptoRow.holds Try.pinned (OpenSpec.upto prtAgreesSpec)

/-- 'pontagelaw13.PrtHeld', WHERE WHAT IT READS IS OF BULK AT MOST 1048576: true; the input reads as it did. -/
def prtHeldUptoRow : OpenClaim := { program := "ytinfcoabfdegcaa", sum := "9a3ff4b1cd088ad1b251b5780f44c575601f955e643af63f9d9619bd0809e38e", func := "pontage/pontagelaw13.PrtHeld", spec := "prtHeld", unfollowed := true, recurses := true, apart := false, narrowed := true }
def PrtHeldUptoSaid : Prop := prtHeldUptoRow.holds Try.pinned (OpenSpec.upto prtHeldSpec)

end Rows
end Go.Proofs.Ytinfcoabfdegcaa
