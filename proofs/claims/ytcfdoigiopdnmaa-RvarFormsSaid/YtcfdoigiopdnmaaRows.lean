/-
  No cell of these rows narrows 'for every input' (looked for: loops, veiled, ifaces, maps, wideKeys, modest, calm, conditions, laid).
  DERIVED. THE GIVEN ROWS OF THIS SEAT. 4 by the template 'for every input the law returns true; each argument reads behind the call as it read before'; 0 by the template 'total and deterministic' (their statements: YtcfdoigiopdnmaaTotals.lean).
  GIVEN WITH THE SEED: the statements are not yours to turn. If you find one false, say at which input.
  Laid BY PROGRAM, IN A SANDBOX (cutbox-rows.mjs): the forced cells as the released guide's own fill.sh prints them over the translation 6818705e0f3859af… (all of the seat's roots in one cut). By AI agents, Wed Nov 11 2026. No macro, syntax, notation, axiom, sorry.
-/
import Derived.Test.YtcfdoigiopdnmaaChecked
import GoSem.Claim
import GoSem.ClaimJoined
import GoSem.ClaimMapViews
import Derived.JoinedTies
import Derived.KernelRfl
namespace Go.Proofs.Ytcfdoigiopdnmaa
/- THE CELL 'sum', in the pinned program and in every row, IS THE sha256 OF THE DUMP (.gsa) THAT YtcfdoigiopdnmaaProg.lean LOADS. Nothing in Lean hashes anything: it is a label: what it is worth is what the hold of that sum in a sandbox is worth. -/
noncomputable def Try.pinned : Pinned := { name := "ytcfdoigiopdnmaa", sum := "6818705e0f3859af0bc30ba644078b5c1d23fac10a07098c31ec24b2b1618ff6", checked := Try.checked }
namespace Rows
def none {H : Type} : Left H := { results := [], args := [] }

/-- 'pontagelaw09.RvarForms': WHATEVER THE INPUT: true; the input reads as it did. -/
def rvarFormsSpec : ChangeSpec := { name := "rvarForms", fn := fun _ => fun
  | [d] => { results := [.lit (.bool true)], args := [d] }
  | _ => none }
def rvarFormsRow : OpenClaim := { program := "ytcfdoigiopdnmaa", sum := "6818705e0f3859af0bc30ba644078b5c1d23fac10a07098c31ec24b2b1618ff6", func := "pontage/pontagelaw09.RvarForms", spec := "rvarForms", unfollowed := true, recurses := true, apart := false }
def RvarFormsSaid : Prop := rvarFormsRow.holds Try.pinned (OpenSpec.ofChange rvarFormsSpec)

/-- ITS FALSE NEIGHBOUR: 'it returns false'. Refute it at one input. -/
def rvarFormsWrong : ChangeSpec := { name := "rvarForms", fn := fun _ => fun
  | [d] => { results := [.lit (.bool false)], args := [d] }
  | _ => none }
def RvarFormsWrongFalsely : Prop := rvarFormsRow.holds Try.pinned (OpenSpec.ofChange rvarFormsWrong)

/-- 'pontagelaw09.RvarTurns': WHATEVER THE INPUT: true; the input reads as it did. -/
def rvarTurnsSpec : ChangeSpec := { name := "rvarTurns", fn := fun _ => fun
  | [d1, d2, d3] => { results := [.lit (.bool true)], args := [d1, d2, d3] }
  | _ => none }
def rvarTurnsRow : OpenClaim := { program := "ytcfdoigiopdnmaa", sum := "6818705e0f3859af0bc30ba644078b5c1d23fac10a07098c31ec24b2b1618ff6", func := "pontage/pontagelaw09.RvarTurns", spec := "rvarTurns", unfollowed := true, recurses := true, apart := false }
def RvarTurnsSaid : Prop := rvarTurnsRow.holds Try.pinned (OpenSpec.ofChange rvarTurnsSpec)

/-- ITS FALSE NEIGHBOUR: 'it returns false'. Refute it at one input. -/
def rvarTurnsWrong : ChangeSpec := { name := "rvarTurns", fn := fun _ => fun
  | [d1, d2, d3] => { results := [.lit (.bool false)], args := [d1, d2, d3] }
  | _ => none }
def RvarTurnsWrongFalsely : Prop := rvarTurnsRow.holds Try.pinned (OpenSpec.ofChange rvarTurnsWrong)

/-- 'pontagelaw09.RvarOut': WHATEVER THE INPUT: true; the input reads as it did. -/
def rvarOutSpec : ChangeSpec := { name := "rvarOut", fn := fun _ => fun
  | [d] => { results := [.lit (.bool true)], args := [d] }
  | _ => none }
def rvarOutRow : OpenClaim := { program := "ytcfdoigiopdnmaa", sum := "6818705e0f3859af0bc30ba644078b5c1d23fac10a07098c31ec24b2b1618ff6", func := "pontage/pontagelaw09.RvarOut", spec := "rvarOut", unfollowed := true, recurses := true, apart := false }
def RvarOutSaid : Prop := rvarOutRow.holds Try.pinned (OpenSpec.ofChange rvarOutSpec)

/-- ITS FALSE NEIGHBOUR: 'it returns false'. Refute it at one input. -/
def rvarOutWrong : ChangeSpec := { name := "rvarOut", fn := fun _ => fun
  | [d] => { results := [.lit (.bool false)], args := [d] }
  | _ => none }
def RvarOutWrongFalsely : Prop := rvarOutRow.holds Try.pinned (OpenSpec.ofChange rvarOutWrong)

/-- 'pontagelaw09.RvarAsks': WHATEVER THE INPUT: true; the input reads as it did. -/
def rvarAsksSpec : ChangeSpec := { name := "rvarAsks", fn := fun _ => fun
  | [d1, d2, d3] => { results := [.lit (.bool true)], args := [d1, d2, d3] }
  | _ => none }
def rvarAsksRow : OpenClaim := { program := "ytcfdoigiopdnmaa", sum := "6818705e0f3859af0bc30ba644078b5c1d23fac10a07098c31ec24b2b1618ff6", func := "pontage/pontagelaw09.RvarAsks", spec := "rvarAsks", unfollowed := true, recurses := true, apart := false }
def RvarAsksSaid : Prop := rvarAsksRow.holds Try.pinned (OpenSpec.ofChange rvarAsksSpec)

/-- ITS FALSE NEIGHBOUR: 'it returns false'. Refute it at one input. -/
def rvarAsksWrong : ChangeSpec := { name := "rvarAsks", fn := fun _ => fun
  | [d1, d2, d3] => { results := [.lit (.bool false)], args := [d1, d2, d3] }
  | _ => none }
def RvarAsksWrongFalsely : Prop := rvarAsksRow.holds Try.pinned (OpenSpec.ofChange rvarAsksWrong)

/- THE SECOND FORM. 'bulk': how many values and letters a reading holds, each counted each time it is reached (what is shared counts as often as it is met; a slice's spare places count too). A statement '..UptoSaid' is the law's where the arguments, and the package variables that the reading takes, are together of bulk at most 1048576: NARROWER than '..Said'. Prove '..Said' where nothing that the law and all that it calls make is longer than what came in: it says more and counts as full. Else prove '..UptoSaid'. A law counts once. -/
mutual
def uptoBulk {H : Type} : DataW H → Nat
  | .lit (.string bytes) => bytes.length + 1
  | .lit _ => 1
  | .nil => 1
  | .ptr d => uptoBulk d + 1
  | .slice elems spare => uptoBulkAll elems + uptoBulkAll spare + 1
  | .agg parts => uptoBulkAll parts + 1
  | .iface _ d => uptoBulk d + 1
  | .map entries => uptoBulkEntries entries + 1
  | .held _ => 1
def uptoBulkAll {H : Type} : List (DataW H) → Nat
  | [] => 0
  | d :: r => uptoBulk d + uptoBulkAll r
def uptoBulkEntries {H : Type} : List (Lit × DataW H) → Nat
  | [] => 0
  | x :: r => uptoBulkEntry x + uptoBulkEntries r
def uptoBulkEntry {H : Type} : Lit × DataW H → Nat
  | (.string bytes, d) => bytes.length + uptoBulk d + 1
  | (_, d) => uptoBulk d + 1
 end
def uptoSmall : (H : Type) → List (DataW H) → Bool := fun _ ds => decide (uptoBulkAll ds ≤ 1048576)
def OpenSpec.upto (s : _root_.Go.ChangeSpec) : _root_.Go.OpenSpec := { _root_.Go.OpenSpec.ofChange s with cond := some uptoSmall }

/-- 'pontagelaw09.RvarForms', WHERE WHAT IT READS IS OF BULK AT MOST 1048576: true; the input reads as it did. -/
def rvarFormsUptoRow : OpenClaim := { program := "ytcfdoigiopdnmaa", sum := "6818705e0f3859af0bc30ba644078b5c1d23fac10a07098c31ec24b2b1618ff6", func := "pontage/pontagelaw09.RvarForms", spec := "rvarForms", unfollowed := true, recurses := true, apart := false, narrowed := true }
def RvarFormsUptoSaid : Prop := rvarFormsUptoRow.holds Try.pinned (OpenSpec.upto rvarFormsSpec)

/-- 'pontagelaw09.RvarTurns', WHERE WHAT IT READS IS OF BULK AT MOST 1048576: true; the input reads as it did. -/
def rvarTurnsUptoRow : OpenClaim := { program := "ytcfdoigiopdnmaa", sum := "6818705e0f3859af0bc30ba644078b5c1d23fac10a07098c31ec24b2b1618ff6", func := "pontage/pontagelaw09.RvarTurns", spec := "rvarTurns", unfollowed := true, recurses := true, apart := false, narrowed := true }
def RvarTurnsUptoSaid : Prop := rvarTurnsUptoRow.holds Try.pinned (OpenSpec.upto rvarTurnsSpec)

/-- 'pontagelaw09.RvarOut', WHERE WHAT IT READS IS OF BULK AT MOST 1048576: true; the input reads as it did. -/
def rvarOutUptoRow : OpenClaim := { program := "ytcfdoigiopdnmaa", sum := "6818705e0f3859af0bc30ba644078b5c1d23fac10a07098c31ec24b2b1618ff6", func := "pontage/pontagelaw09.RvarOut", spec := "rvarOut", unfollowed := true, recurses := true, apart := false, narrowed := true }
def RvarOutUptoSaid : Prop := rvarOutUptoRow.holds Try.pinned (OpenSpec.upto rvarOutSpec)

/-- 'pontagelaw09.RvarAsks', WHERE WHAT IT READS IS OF BULK AT MOST 1048576: true; the input reads as it did. -/
def rvarAsksUptoRow : OpenClaim := { program := "ytcfdoigiopdnmaa", sum := "6818705e0f3859af0bc30ba644078b5c1d23fac10a07098c31ec24b2b1618ff6", func := "pontage/pontagelaw09.RvarAsks", spec := "rvarAsks", unfollowed := true, recurses := true, apart := false, narrowed := true }
def RvarAsksUptoSaid : Prop := rvarAsksUptoRow.holds Try.pinned (OpenSpec.upto rvarAsksSpec)

end Rows
end Go.Proofs.Ytcfdoigiopdnmaa
