/-
  No cell of these rows narrows 'for every input' (looked for: loops, veiled, ifaces, maps, wideKeys, modest, calm, conditions, laid).
  DERIVED. THE GIVEN ROWS OF THIS SEAT. 4 by the template 'for every input the law returns true; each argument reads behind the call as it read before'; 0 by the template 'total and deterministic' (their statements: YtpmemjjfabfleaaTotals.lean).
  GIVEN WITH THE SEED: the statements are not yours to turn. If you find one false, say at which input.
  Laid BY PROGRAM, IN A SANDBOX (cutbox-rows.mjs): the forced cells as the released guide's own fill.sh prints them over the translation 1e655b58fd845abe… (all of the seat's roots in one cut). By AI agents, Wed Nov 11 2026. No macro, syntax, notation, axiom, sorry.
-/
import Derived.Test.YtpmemjjfabfleaaChecked
import GoSem.Claim
import GoSem.ClaimJoined
import GoSem.ClaimMapViews
import Derived.JoinedTies
import Derived.KernelRfl
namespace Go.Proofs.Ytpmemjjfabfleaa
/- THE CELL 'sum', in the pinned program and in every row, IS THE sha256 OF THE DUMP (.gsa) THAT YtpmemjjfabfleaaProg.lean LOADS. Nothing in Lean hashes anything: it is a label: what it is worth is what the hold of that sum in a sandbox is worth. -/
noncomputable def Try.pinned : Pinned := { name := "ytpmemjjfabfleaa", sum := "1e655b58fd845abeee0097f61195ca2fd4fffb2afff914d5f6a93abfaa43b8dc", checked := Try.checked }
namespace Rows
def none {H : Type} : Left H := { results := [], args := [] }

/-- 'pontagelaw11.PimSteps': WHATEVER THE INPUT: true; the input reads as it did. -/
def pimStepsSpec : ChangeSpec := { name := "pimSteps", fn := fun _ => fun
  | [d1, d2, d3] => { results := [.lit (.bool true)], args := [d1, d2, d3] }
  | _ => none }
def pimStepsRow : OpenClaim := { program := "ytpmemjjfabfleaa", sum := "1e655b58fd845abeee0097f61195ca2fd4fffb2afff914d5f6a93abfaa43b8dc", func := "pontage/pontagelaw11.PimSteps", spec := "pimSteps", unfollowed := true, recurses := true, apart := false }
def PimStepsSaid : Prop := pimStepsRow.holds Try.pinned (OpenSpec.ofChange pimStepsSpec)

/-- ITS FALSE NEIGHBOUR: 'it returns false'. Refute it at one input. -/
def pimStepsWrong : ChangeSpec := { name := "pimSteps", fn := fun _ => fun
  | [d1, d2, d3] => { results := [.lit (.bool false)], args := [d1, d2, d3] }
  | _ => none }
def PimStepsWrongFalsely : Prop := pimStepsRow.holds Try.pinned (OpenSpec.ofChange pimStepsWrong)

/-- 'pontagelaw11.PimOnce': WHATEVER THE INPUT: true; the input reads as it did. -/
def pimOnceSpec : ChangeSpec := { name := "pimOnce", fn := fun _ => fun
  | [d1, d2] => { results := [.lit (.bool true)], args := [d1, d2] }
  | _ => none }
def pimOnceRow : OpenClaim := { program := "ytpmemjjfabfleaa", sum := "1e655b58fd845abeee0097f61195ca2fd4fffb2afff914d5f6a93abfaa43b8dc", func := "pontage/pontagelaw11.PimOnce", spec := "pimOnce", unfollowed := true, recurses := true, apart := false }
def PimOnceSaid : Prop := pimOnceRow.holds Try.pinned (OpenSpec.ofChange pimOnceSpec)

/-- ITS FALSE NEIGHBOUR: 'it returns false'. Refute it at one input. -/
def pimOnceWrong : ChangeSpec := { name := "pimOnce", fn := fun _ => fun
  | [d1, d2] => { results := [.lit (.bool false)], args := [d1, d2] }
  | _ => none }
def PimOnceWrongFalsely : Prop := pimOnceRow.holds Try.pinned (OpenSpec.ofChange pimOnceWrong)

/-- 'pontagelaw11.PimAges': WHATEVER THE INPUT: true; the input reads as it did. -/
def pimAgesSpec : ChangeSpec := { name := "pimAges", fn := fun _ => fun
  | [d1, d2] => { results := [.lit (.bool true)], args := [d1, d2] }
  | _ => none }
def pimAgesRow : OpenClaim := { program := "ytpmemjjfabfleaa", sum := "1e655b58fd845abeee0097f61195ca2fd4fffb2afff914d5f6a93abfaa43b8dc", func := "pontage/pontagelaw11.PimAges", spec := "pimAges", unfollowed := true, recurses := true, apart := false }
def PimAgesSaid : Prop := pimAgesRow.holds Try.pinned (OpenSpec.ofChange pimAgesSpec)

/-- ITS FALSE NEIGHBOUR: 'it returns false'. Refute it at one input. -/
def pimAgesWrong : ChangeSpec := { name := "pimAges", fn := fun _ => fun
  | [d1, d2] => { results := [.lit (.bool false)], args := [d1, d2] }
  | _ => none }
def PimAgesWrongFalsely : Prop := pimAgesRow.holds Try.pinned (OpenSpec.ofChange pimAgesWrong)

/-- 'pontagelaw11.PimDown': WHATEVER THE INPUT: true; the input reads as it did. -/
def pimDownSpec : ChangeSpec := { name := "pimDown", fn := fun _ => fun
  | [d1, d2, d3] => { results := [.lit (.bool true)], args := [d1, d2, d3] }
  | _ => none }
def pimDownRow : OpenClaim := { program := "ytpmemjjfabfleaa", sum := "1e655b58fd845abeee0097f61195ca2fd4fffb2afff914d5f6a93abfaa43b8dc", func := "pontage/pontagelaw11.PimDown", spec := "pimDown", unfollowed := true, recurses := true, apart := false }
def PimDownSaid : Prop := pimDownRow.holds Try.pinned (OpenSpec.ofChange pimDownSpec)

/-- ITS FALSE NEIGHBOUR: 'it returns false'. Refute it at one input. -/
def pimDownWrong : ChangeSpec := { name := "pimDown", fn := fun _ => fun
  | [d1, d2, d3] => { results := [.lit (.bool false)], args := [d1, d2, d3] }
  | _ => none }
def PimDownWrongFalsely : Prop := pimDownRow.holds Try.pinned (OpenSpec.ofChange pimDownWrong)

/- THE SECOND FORM. 'bulk': how many values and letters a reading holds, each counted each time it is reached (what is shared counts as often as it is met; a slice's spare places count too). A statement '..UptoSaid' is the law's where the arguments, and the package variables that the reading takes, are together of bulk at most 1048576: NARROWER than '..Said'. Prove '..Said' where nothing that the law and all that it calls make is longer than what came in: it says more and counts as full. Else prove '..UptoSaid'. A law counts once. -/
mutual
def uptoBulk {H : Type} : DataW H → Nat
  | .lit (.string bytes) => bytes.length + 1
  | .lit _ => 1
  | .nil => 1
  | .ptr d => uptoBulk d + 1
  | .slice elems spare => uptoBulkAll elems + uptoBulkAll spare + 1
  | .agg parts => uptoBulkAll parts + 1
  | .iface _ d => uptoBulk d + 1
  | .map entries => uptoBulkEntries entries + 1
  | .held _ => 1
def uptoBulkAll {H : Type} : List (DataW H) → Nat
  | [] => 0
  | d :: r => uptoBulk d + uptoBulkAll r
def uptoBulkEntries {H : Type} : List (Lit × DataW H) → Nat
  | [] => 0
  | x :: r => uptoBulkEntry x + uptoBulkEntries r
def uptoBulkEntry {H : Type} : Lit × DataW H → Nat
  | (.string bytes, d) => bytes.length + uptoBulk d + 1
  | (_, d) => uptoBulk d + 1
 end
def uptoSmall : (H : Type) → List (DataW H) → Bool := fun _ ds => decide (uptoBulkAll ds ≤ 1048576)
def OpenSpec.upto (s : _root_.Go.ChangeSpec) : _root_.Go.OpenSpec := { _root_.Go.OpenSpec.ofChange s with cond := some uptoSmall }

/-- 'pontagelaw11.PimSteps', WHERE WHAT IT READS IS OF BULK AT MOST 1048576: true; the input reads as it did. -/
def pimStepsUptoRow : OpenClaim := { program := "ytpmemjjfabfleaa", sum := "1e655b58fd845abeee0097f61195ca2fd4fffb2afff914d5f6a93abfaa43b8dc", func := "pontage/pontagelaw11.PimSteps", spec := "pimSteps", unfollowed := true, recurses := true, apart := false, narrowed := true }
def PimStepsUptoSaid : Prop := pimStepsUptoRow.holds Try.pinned (OpenSpec.upto pimStepsSpec)

/-- 'pontagelaw11.PimOnce', WHERE WHAT IT READS IS OF BULK AT MOST 1048576: true; the input reads as it did. -/
def pimOnceUptoRow : OpenClaim := { program := "ytpmemjjfabfleaa", sum := "1e655b58fd845abeee0097f61195ca2fd4fffb2afff914d5f6a93abfaa43b8dc", func := "pontage/pontagelaw11.PimOnce", spec := "pimOnce", unfollowed := true, recurses := true, apart := false, narrowed := true }
def PimOnceUptoSaid : Prop := pimOnceUptoRow.holds Try.pinned (OpenSpec.upto pimOnceSpec)

/-- 'pontagelaw11.PimAges', WHERE WHAT IT READS IS OF BULK AT MOST 1048576: true; the input reads as it did. -/
def pimAgesUptoRow : OpenClaim := { program := "ytpmemjjfabfleaa", sum := "1e655b58fd845abeee0097f61195ca2fd4fffb2afff914d5f6a93abfaa43b8dc", func := "pontage/pontagelaw11.PimAges", spec := "pimAges", unfollowed := true, recurses := true, apart := false, narrowed := true }
def PimAgesUptoSaid : Prop := pimAgesUptoRow.holds Try.pinned (OpenSpec.upto pimAgesSpec)

/-- 'pontagelaw11.PimDown', WHERE WHAT IT READS IS OF BULK AT MOST 1048576: true; the input reads as it did. -/
def pimDownUptoRow : OpenClaim := { program := "ytpmemjjfabfleaa", sum := "1e655b58fd845abeee0097f61195ca2fd4fffb2afff914d5f6a93abfaa43b8dc", func := "pontage/pontagelaw11.PimDown", spec := "pimDown", unfollowed := true, recurses := true, apart := false, narrowed := true }
def PimDownUptoSaid : Prop := pimDownUptoRow.holds Try.pinned (OpenSpec.upto pimDownSpec)

end Rows
end Go.Proofs.Ytpmemjjfabfleaa
