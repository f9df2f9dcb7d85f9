/-
  No cell of these rows narrows 'for every input' (looked for: loops, veiled, ifaces, maps, wideKeys, modest, calm, conditions, laid).
  DERIVED. THE GIVEN ROWS OF THIS SEAT. 7 by the template 'for every input the law returns true; each argument reads behind the call as it read before'; 0 by the template 'total and deterministic' (their statements: YtmpfabbaoendeaaTotals.lean).
  GIVEN WITH THE SEED: the statements are not yours to turn. If you find one false, say at which input.
  Laid BY PROGRAM, IN A SANDBOX (cutbox-rows.mjs): the forced cells as the released guide's own fill.sh prints them over the translation 9c07d27054393699… (all of the seat's roots in one cut). By AI agents, Wed Nov 11 2026. No macro, syntax, notation, axiom, sorry.
-/
import Derived.Test.YtmpfabbaoendeaaChecked
import GoSem.Claim
import GoSem.ClaimJoined
import GoSem.ClaimMapViews
import Derived.JoinedTies
import Derived.KernelRfl
namespace Go.Proofs.Ytmpfabbaoendeaa
/- THE CELL 'sum', in the pinned program and in every row, IS THE sha256 OF THE DUMP (.gsa) THAT YtmpfabbaoendeaaProg.lean LOADS. Nothing in Lean hashes anything: it is a label: what it is worth is what the hold of that sum in a sandbox is worth. -/
noncomputable def Try.pinned : Pinned := { name := "ytmpfabbaoendeaa", sum := "9c07d2705439369916c41e36bd7c38648de0fae5d1e5d12da042ec4965684598", checked := Try.checked }
namespace Rows
def none {H : Type} : Left H := { results := [], args := [] }

/-- 'pontagelaw12.RolesRoots': WHATEVER THE INPUT: true; the input reads as it did. -/
def rolesRootsSpec : ChangeSpec := { name := "rolesRoots", fn := fun _ => fun
  | [d] => { results := [.lit (.bool true)], args := [d] }
  | _ => none }
def rolesRootsRow : OpenClaim := { program := "ytmpfabbaoendeaa", sum := "9c07d2705439369916c41e36bd7c38648de0fae5d1e5d12da042ec4965684598", func := "pontage/pontagelaw12.RolesRoots", spec := "rolesRoots", apart := false }
def RolesRootsSaid : Prop := rolesRootsRow.holds Try.pinned (OpenSpec.ofChange rolesRootsSpec)

/-- ITS FALSE NEIGHBOUR: 'it returns false'. Refute it at one input. -/
def rolesRootsWrong : ChangeSpec := { name := "rolesRoots", fn := fun _ => fun
  | [d] => { results := [.lit (.bool false)], args := [d] }
  | _ => none }
def RolesRootsWrongFalsely : Prop := rolesRootsRow.holds Try.pinned (OpenSpec.ofChange rolesRootsWrong)

/-- 'pontagelaw12.RolesSelects': WHATEVER THE INPUT: true; the input reads as it did. -/
def rolesSelectsSpec : ChangeSpec := { name := "rolesSelects", fn := fun _ => fun
  | [d] => { results := [.lit (.bool true)], args := [d] }
  | _ => none }
def rolesSelectsRow : OpenClaim := { program := "ytmpfabbaoendeaa", sum := "9c07d2705439369916c41e36bd7c38648de0fae5d1e5d12da042ec4965684598", func := "pontage/pontagelaw12.RolesSelects", spec := "rolesSelects", apart := false }
def RolesSelectsSaid : Prop := rolesSelectsRow.holds Try.pinned (OpenSpec.ofChange rolesSelectsSpec)

/-- ITS FALSE NEIGHBOUR: 'it returns false'. Refute it at one input. -/
def rolesSelectsWrong : ChangeSpec := { name := "rolesSelects", fn := fun _ => fun
  | [d] => { results := [.lit (.bool false)], args := [d] }
  | _ => none }
def RolesSelectsWrongFalsely : Prop := rolesSelectsRow.holds Try.pinned (OpenSpec.ofChange rolesSelectsWrong)

/-- 'pontagelaw12.RolesOne': WHATEVER THE INPUT: true; the input reads as it did. -/
def rolesOneSpec : ChangeSpec := { name := "rolesOne", fn := fun _ => fun
  | [d] => { results := [.lit (.bool true)], args := [d] }
  | _ => none }
def rolesOneRow : OpenClaim := { program := "ytmpfabbaoendeaa", sum := "9c07d2705439369916c41e36bd7c38648de0fae5d1e5d12da042ec4965684598", func := "pontage/pontagelaw12.RolesOne", spec := "rolesOne", apart := false }
def RolesOneSaid : Prop := rolesOneRow.holds Try.pinned (OpenSpec.ofChange rolesOneSpec)

/-- ITS FALSE NEIGHBOUR: 'it returns false'. Refute it at one input. -/
def rolesOneWrong : ChangeSpec := { name := "rolesOne", fn := fun _ => fun
  | [d] => { results := [.lit (.bool false)], args := [d] }
  | _ => none }
def RolesOneWrongFalsely : Prop := rolesOneRow.holds Try.pinned (OpenSpec.ofChange rolesOneWrong)

/-- 'pontagelaw12.RolesBest': WHATEVER THE INPUT: true; the input reads as it did. -/
def rolesBestSpec : ChangeSpec := { name := "rolesBest", fn := fun _ => fun
  | [d] => { results := [.lit (.bool true)], args := [d] }
  | _ => none }
def rolesBestRow : OpenClaim := { program := "ytmpfabbaoendeaa", sum := "9c07d2705439369916c41e36bd7c38648de0fae5d1e5d12da042ec4965684598", func := "pontage/pontagelaw12.RolesBest", spec := "rolesBest", apart := false }
def RolesBestSaid : Prop := rolesBestRow.holds Try.pinned (OpenSpec.ofChange rolesBestSpec)

/-- ITS FALSE NEIGHBOUR: 'it returns false'. Refute it at one input. -/
def rolesBestWrong : ChangeSpec := { name := "rolesBest", fn := fun _ => fun
  | [d] => { results := [.lit (.bool false)], args := [d] }
  | _ => none }
def RolesBestWrongFalsely : Prop := rolesBestRow.holds Try.pinned (OpenSpec.ofChange rolesBestWrong)

/-- 'pontagelaw12.RolesFits': WHATEVER THE INPUT: true; the input reads as it did. -/
def rolesFitsSpec : ChangeSpec := { name := "rolesFits", fn := fun _ => fun
  | [d] => { results := [.lit (.bool true)], args := [d] }
  | _ => none }
def rolesFitsRow : OpenClaim := { program := "ytmpfabbaoendeaa", sum := "9c07d2705439369916c41e36bd7c38648de0fae5d1e5d12da042ec4965684598", func := "pontage/pontagelaw12.RolesFits", spec := "rolesFits", apart := false }
def RolesFitsSaid : Prop := rolesFitsRow.holds Try.pinned (OpenSpec.ofChange rolesFitsSpec)

/-- ITS FALSE NEIGHBOUR: 'it returns false'. Refute it at one input. -/
def rolesFitsWrong : ChangeSpec := { name := "rolesFits", fn := fun _ => fun
  | [d] => { results := [.lit (.bool false)], args := [d] }
  | _ => none }
def RolesFitsWrongFalsely : Prop := rolesFitsRow.holds Try.pinned (OpenSpec.ofChange rolesFitsWrong)

/-- 'pontagelaw12.RolesSteps': WHATEVER THE INPUT: true; the input reads as it did. -/
def rolesStepsSpec : ChangeSpec := { name := "rolesSteps", fn := fun _ => fun
  | [d] => { results := [.lit (.bool true)], args := [d] }
  | _ => none }
def rolesStepsRow : OpenClaim := { program := "ytmpfabbaoendeaa", sum := "9c07d2705439369916c41e36bd7c38648de0fae5d1e5d12da042ec4965684598", func := "pontage/pontagelaw12.RolesSteps", spec := "rolesSteps", unfollowed := true, recurses := true, apart := false }
def RolesStepsSaid : Prop := rolesStepsRow.holds Try.pinned (OpenSpec.ofChange rolesStepsSpec)

/-- ITS FALSE NEIGHBOUR: 'it returns false'. Refute it at one input. -/
def rolesStepsWrong : ChangeSpec := { name := "rolesSteps", fn := fun _ => fun
  | [d] => { results := [.lit (.bool false)], args := [d] }
  | _ => none }
def RolesStepsWrongFalsely : Prop := rolesStepsRow.holds Try.pinned (OpenSpec.ofChange rolesStepsWrong)

/-- 'pontagelaw12.RolesAgain': WHATEVER THE INPUT: true; the input reads as it did. -/
def rolesAgainSpec : ChangeSpec := { name := "rolesAgain", fn := fun _ => fun
  | [d] => { results := [.lit (.bool true)], args := [d] }
  | _ => none }
def rolesAgainRow : OpenClaim := { program := "ytmpfabbaoendeaa", sum := "9c07d2705439369916c41e36bd7c38648de0fae5d1e5d12da042ec4965684598", func := "pontage/pontagelaw12.RolesAgain", spec := "rolesAgain", unfollowed := true, recurses := true, apart := false }
def RolesAgainSaid : Prop := rolesAgainRow.holds Try.pinned (OpenSpec.ofChange rolesAgainSpec)

/-- ITS FALSE NEIGHBOUR: 'it returns false'. Refute it at one input. -/
def rolesAgainWrong : ChangeSpec := { name := "rolesAgain", fn := fun _ => fun
  | [d] => { results := [.lit (.bool false)], args := [d] }
  | _ => none }
def RolesAgainWrongFalsely : Prop := rolesAgainRow.holds Try.pinned (OpenSpec.ofChange rolesAgainWrong)

/- THE SECOND FORM. 'bulk': how many values and letters a reading holds, each counted each time it is reached (what is shared counts as often as it is met; a slice's spare places count too). A statement '..UptoSaid' is the law's where the arguments, and the package variables that the reading takes, are together of bulk at most 1048576: NARROWER than '..Said'. Prove '..Said' where nothing that the law and all that it calls make is longer than what came in: it says more and counts as full. Else prove '..UptoSaid'. A law counts once. -/
mutual
def uptoBulk {H : Type} : DataW H → Nat
  | .lit (.string bytes) => bytes.length + 1
  | .lit _ => 1
  | .nil => 1
  | .ptr d => uptoBulk d + 1
  | .slice elems spare => uptoBulkAll elems + uptoBulkAll spare + 1
  | .agg parts => uptoBulkAll parts + 1
  | .iface _ d => uptoBulk d + 1
  | .map entries => uptoBulkEntries entries + 1
  | .held _ => 1
def uptoBulkAll {H : Type} : List (DataW H) → Nat
  | [] => 0
  | d :: r => uptoBulk d + uptoBulkAll r
def uptoBulkEntries {H : Type} : List (Lit × DataW H) → Nat
  | [] => 0
  | x :: r => uptoBulkEntry x + uptoBulkEntries r
def uptoBulkEntry {H : Type} : Lit × DataW H → Nat
  | (.string bytes, d) => bytes.length + uptoBulk d + 1
  | (_, d) => uptoBulk d + 1
 end
def uptoSmall : (H : Type) → List (DataW H) → Bool := fun _ ds => decide (uptoBulkAll ds ≤ 1048576)
def OpenSpec.upto (s : _root_.Go.ChangeSpec) : _root_.Go.OpenSpec := { _root_.Go.OpenSpec.ofChange s with cond := some uptoSmall }

/-- 'pontagelaw12.RolesRoots', WHERE WHAT IT READS IS OF BULK AT MOST 1048576: true; the input reads as it did. -/
def rolesRootsUptoRow : OpenClaim := { program := "ytmpfabbaoendeaa", sum := "9c07d2705439369916c41e36bd7c38648de0fae5d1e5d12da042ec4965684598", func := "pontage/pontagelaw12.RolesRoots", spec := "rolesRoots", apart := false, narrowed := true }
def RolesRootsUptoSaid : Prop := rolesRootsUptoRow.holds Try.pinned (OpenSpec.upto rolesRootsSpec)

/-- 'pontagelaw12.RolesSelects', WHERE WHAT IT READS IS OF BULK AT MOST 1048576: true; the input reads as it did. -/
def rolesSelectsUptoRow : OpenClaim := { program := "ytmpfabbaoendeaa", sum := "9c07d2705439369916c41e36bd7c38648de0fae5d1e5d12da042ec4965684598", func := "pontage/pontagelaw12.RolesSelects", spec := "rolesSelects", apart := false, narrowed := true }
def RolesSelectsUptoSaid : Prop := rolesSelectsUptoRow.holds Try.pinned (OpenSpec.upto rolesSelectsSpec)

/-- 'pontagelaw12.RolesOne', WHERE WHAT IT READS IS OF BULK AT MOST 1048576: true; the input reads as it did. -/
def rolesOneUptoRow : OpenClaim := { program := "ytmpfabbaoendeaa", sum := "9c07d2705439369916c41e36bd7c38648de0fae5d1e5d12da042ec4965684598", func := "pontage/pontagelaw12.RolesOne", spec := "rolesOne", apart := false, narrowed := true }
def RolesOneUptoSaid : Prop := rolesOneUptoRow.holds Try.pinned (OpenSpec.upto rolesOneSpec)

/-- 'pontagelaw12.RolesBest', WHERE WHAT IT READS IS OF BULK AT MOST 1048576: true; the input reads as it did. -/
def rolesBestUptoRow : OpenClaim := { program := "ytmpfabbaoendeaa", sum := "9c07d2705439369916c41e36bd7c38648de0fae5d1e5d12da042ec4965684598", func := "pontage/pontagelaw12.RolesBest", spec := "rolesBest", apart := false, narrowed := true }
def RolesBestUptoSaid : Prop := rolesBestUptoRow.holds Try.pinned (OpenSpec.upto rolesBestSpec)

/-- 'pontagelaw12.RolesFits', WHERE WHAT IT READS IS OF BULK AT MOST 1048576: true; the input reads as it did. -/
def rolesFitsUptoRow : OpenClaim := { program := "ytmpfabbaoendeaa", sum := "9c07d2705439369916c41e36bd7c38648de0fae5d1e5d12da042ec4965684598", func := "pontage/pontagelaw12.RolesFits", spec := "rolesFits", apart := false, narrowed := true }
def RolesFitsUptoSaid : Prop := rolesFitsUptoRow.holds Try.pinned (OpenSpec.upto rolesFitsSpec)

/-- 'pontagelaw12.RolesSteps', WHERE WHAT IT READS IS OF BULK AT MOST 1048576: true; the input reads as it did. -/
def rolesStepsUptoRow : OpenClaim := { program := "ytmpfabbaoendeaa", sum := "9c07d2705439369916c41e36bd7c38648de0fae5d1e5d12da042ec4965684598", func := "pontage/pontagelaw12.RolesSteps", spec := "rolesSteps", unfollowed := true, recurses := true, apart := false, narrowed := true }
def RolesStepsUptoSaid : Prop := rolesStepsUptoRow.holds Try.pinned (OpenSpec.upto rolesStepsSpec)

/-- 'pontagelaw12.RolesAgain', WHERE WHAT IT READS IS OF BULK AT MOST 1048576: true; the input reads as it did. -/
def rolesAgainUptoRow : OpenClaim := { program := "ytmpfabbaoendeaa", sum := "9c07d2705439369916c41e36bd7c38648de0fae5d1e5d12da042ec4965684598", func := "pontage/pontagelaw12.RolesAgain", spec := "rolesAgain", unfollowed := true, recurses := true, apart := false, narrowed := true }
def RolesAgainUptoSaid : Prop := rolesAgainUptoRow.holds Try.pinned (OpenSpec.upto rolesAgainSpec)

end Rows
end Go.Proofs.Ytmpfabbaoendeaa
