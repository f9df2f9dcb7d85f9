/-
  No cell of these rows narrows 'for every input' (looked for: loops, veiled, ifaces, maps, wideKeys, modest, calm, conditions, laid).
  DERIVED. THE GIVEN ROWS OF THIS SEAT. 8 by the template 'for every input the law returns true; each argument reads behind the call as it read before'; 0 by the template 'total and deterministic' (their statements: YtllhaedeemcmmaaTotals.lean).
  GIVEN WITH THE SEED: the statements are not yours to turn. If you find one false, say at which input.
  Laid BY PROGRAM, IN A SANDBOX (cutbox-rows.mjs): the forced cells as the released guide's own fill.sh prints them over the translation e9b44836af2b7689… (all of the seat's roots in one cut). By AI agents, Wed Nov 11 2026. No macro, syntax, notation, axiom, sorry.
-/
import Derived.Test.YtllhaedeemcmmaaChecked
import GoSem.Claim
import GoSem.ClaimJoined
import GoSem.ClaimMapViews
import Derived.JoinedTies
import Derived.KernelRfl
namespace Go.Proofs.Ytllhaedeemcmmaa
/- THE CELL 'sum', in the pinned program and in every row, IS THE sha256 OF THE DUMP (.gsa) THAT YtllhaedeemcmmaaProg.lean LOADS. Nothing in Lean hashes anything: it is a label: what it is worth is what the hold of that sum in a sandbox is worth. -/
noncomputable def Try.pinned : Pinned := { name := "ytllhaedeemcmmaa", sum := "e9b44836af2b7689231c58c581968c42bd5a3d2752f8696a13c4739a3544ec65", checked := Try.checked }
namespace Rows
def none {H : Type} : Left H := { results := [], args := [] }

/-- 'pontagelaw10.HeardTakes': WHATEVER THE INPUT: true; the input reads as it did. -/
def heardTakesSpec : ChangeSpec := { name := "heardTakes", fn := fun _ => fun
  | [d1, d2] => { results := [.lit (.bool true)], args := [d1, d2] }
  | _ => none }
def heardTakesRow : OpenClaim := { program := "ytllhaedeemcmmaa", sum := "e9b44836af2b7689231c58c581968c42bd5a3d2752f8696a13c4739a3544ec65", func := "pontage/pontagelaw10.HeardTakes", spec := "heardTakes", apart := false }
def HeardTakesSaid : Prop := heardTakesRow.holds Try.pinned (OpenSpec.ofChange heardTakesSpec)

/-- ITS FALSE NEIGHBOUR: 'it returns false'. Refute it at one input. -/
def heardTakesWrong : ChangeSpec := { name := "heardTakes", fn := fun _ => fun
  | [d1, d2] => { results := [.lit (.bool false)], args := [d1, d2] }
  | _ => none }
def HeardTakesWrongFalsely : Prop := heardTakesRow.holds Try.pinned (OpenSpec.ofChange heardTakesWrong)

/-- 'pontagelaw10.HeardOne': WHATEVER THE INPUT: true; the input reads as it did. -/
def heardOneSpec : ChangeSpec := { name := "heardOne", fn := fun _ => fun
  | [d] => { results := [.lit (.bool true)], args := [d] }
  | _ => none }
def heardOneRow : OpenClaim := { program := "ytllhaedeemcmmaa", sum := "e9b44836af2b7689231c58c581968c42bd5a3d2752f8696a13c4739a3544ec65", func := "pontage/pontagelaw10.HeardOne", spec := "heardOne", apart := false }
def HeardOneSaid : Prop := heardOneRow.holds Try.pinned (OpenSpec.ofChange heardOneSpec)

/-- ITS FALSE NEIGHBOUR: 'it returns false'. Refute it at one input. -/
def heardOneWrong : ChangeSpec := { name := "heardOne", fn := fun _ => fun
  | [d] => { results := [.lit (.bool false)], args := [d] }
  | _ => none }
def HeardOneWrongFalsely : Prop := heardOneRow.holds Try.pinned (OpenSpec.ofChange heardOneWrong)

/-- 'pontagelaw10.HeardAgain': WHATEVER THE INPUT: true; the input reads as it did. -/
def heardAgainSpec : ChangeSpec := { name := "heardAgain", fn := fun _ => fun
  | [d1, d2] => { results := [.lit (.bool true)], args := [d1, d2] }
  | _ => none }
def heardAgainRow : OpenClaim := { program := "ytllhaedeemcmmaa", sum := "e9b44836af2b7689231c58c581968c42bd5a3d2752f8696a13c4739a3544ec65", func := "pontage/pontagelaw10.HeardAgain", spec := "heardAgain", apart := false }
def HeardAgainSaid : Prop := heardAgainRow.holds Try.pinned (OpenSpec.ofChange heardAgainSpec)

/-- ITS FALSE NEIGHBOUR: 'it returns false'. Refute it at one input. -/
def heardAgainWrong : ChangeSpec := { name := "heardAgain", fn := fun _ => fun
  | [d1, d2] => { results := [.lit (.bool false)], args := [d1, d2] }
  | _ => none }
def HeardAgainWrongFalsely : Prop := heardAgainRow.holds Try.pinned (OpenSpec.ofChange heardAgainWrong)

/-- 'pontagelaw10.HeardInfos': WHATEVER THE INPUT: true; the input reads as it did. -/
def heardInfosSpec : ChangeSpec := { name := "heardInfos", fn := fun _ => fun
  | [d1, d2] => { results := [.lit (.bool true)], args := [d1, d2] }
  | _ => none }
def heardInfosRow : OpenClaim := { program := "ytllhaedeemcmmaa", sum := "e9b44836af2b7689231c58c581968c42bd5a3d2752f8696a13c4739a3544ec65", func := "pontage/pontagelaw10.HeardInfos", spec := "heardInfos", apart := false }
def HeardInfosSaid : Prop := heardInfosRow.holds Try.pinned (OpenSpec.ofChange heardInfosSpec)

/-- ITS FALSE NEIGHBOUR: 'it returns false'. Refute it at one input. -/
def heardInfosWrong : ChangeSpec := { name := "heardInfos", fn := fun _ => fun
  | [d1, d2] => { results := [.lit (.bool false)], args := [d1, d2] }
  | _ => none }
def HeardInfosWrongFalsely : Prop := heardInfosRow.holds Try.pinned (OpenSpec.ofChange heardInfosWrong)

/-- 'pontagelaw10.HeardAges': WHATEVER THE INPUT: true; the input reads as it did. -/
def heardAgesSpec : ChangeSpec := { name := "heardAges", fn := fun _ => fun
  | [d] => { results := [.lit (.bool true)], args := [d] }
  | _ => none }
def heardAgesRow : OpenClaim := { program := "ytllhaedeemcmmaa", sum := "e9b44836af2b7689231c58c581968c42bd5a3d2752f8696a13c4739a3544ec65", func := "pontage/pontagelaw10.HeardAges", spec := "heardAges", apart := false }
def HeardAgesSaid : Prop := heardAgesRow.holds Try.pinned (OpenSpec.ofChange heardAgesSpec)

/-- ITS FALSE NEIGHBOUR: 'it returns false'. Refute it at one input. -/
def heardAgesWrong : ChangeSpec := { name := "heardAges", fn := fun _ => fun
  | [d] => { results := [.lit (.bool false)], args := [d] }
  | _ => none }
def HeardAgesWrongFalsely : Prop := heardAgesRow.holds Try.pinned (OpenSpec.ofChange heardAgesWrong)

/-- 'pontagelaw10.HeardAgrees': WHATEVER THE INPUT: true; the input reads as it did. -/
def heardAgreesSpec : ChangeSpec := { name := "heardAgrees", fn := fun _ => fun
  | [d] => { results := [.lit (.bool true)], args := [d] }
  | _ => none }
def heardAgreesRow : OpenClaim := { program := "ytllhaedeemcmmaa", sum := "e9b44836af2b7689231c58c581968c42bd5a3d2752f8696a13c4739a3544ec65", func := "pontage/pontagelaw10.HeardAgrees", spec := "heardAgrees", unfollowed := true, recurses := true, apart := false }
def HeardAgreesSaid : Prop := heardAgreesRow.holds Try.pinned (OpenSpec.ofChange heardAgreesSpec)

/-- ITS FALSE NEIGHBOUR: 'it returns false'. Refute it at one input. -/
def heardAgreesWrong : ChangeSpec := { name := "heardAgrees", fn := fun _ => fun
  | [d] => { results := [.lit (.bool false)], args := [d] }
  | _ => none }
def HeardAgreesWrongFalsely : Prop := heardAgreesRow.holds Try.pinned (OpenSpec.ofChange heardAgreesWrong)

/-- 'pontagelaw10.HeardRecords': WHATEVER THE INPUT: true; the input reads as it did. -/
def heardRecordsSpec : ChangeSpec := { name := "heardRecords", fn := fun _ => fun
  | [d] => { results := [.lit (.bool true)], args := [d] }
  | _ => none }
def heardRecordsRow : OpenClaim := { program := "ytllhaedeemcmmaa", sum := "e9b44836af2b7689231c58c581968c42bd5a3d2752f8696a13c4739a3544ec65", func := "pontage/pontagelaw10.HeardRecords", spec := "heardRecords", unfollowed := true, recurses := true, apart := false }
def HeardRecordsSaid : Prop := heardRecordsRow.holds Try.pinned (OpenSpec.ofChange heardRecordsSpec)

/-- ITS FALSE NEIGHBOUR: 'it returns false'. Refute it at one input. -/
def heardRecordsWrong : ChangeSpec := { name := "heardRecords", fn := fun _ => fun
  | [d] => { results := [.lit (.bool false)], args := [d] }
  | _ => none }
def HeardRecordsWrongFalsely : Prop := heardRecordsRow.holds Try.pinned (OpenSpec.ofChange heardRecordsWrong)

/-- 'pontagelaw10.HeardOnly': WHATEVER THE INPUT: true; the input reads as it did. -/
def heardOnlySpec : ChangeSpec := { name := "heardOnly", fn := fun _ => fun
  | [d1, d2] => { results := [.lit (.bool true)], args := [d1, d2] }
  | _ => none }
def heardOnlyRow : OpenClaim := { program := "ytllhaedeemcmmaa", sum := "e9b44836af2b7689231c58c581968c42bd5a3d2752f8696a13c4739a3544ec65", func := "pontage/pontagelaw10.HeardOnly", spec := "heardOnly", unfollowed := true, recurses := true, apart := false }
def HeardOnlySaid : Prop := heardOnlyRow.holds Try.pinned (OpenSpec.ofChange heardOnlySpec)

/-- ITS FALSE NEIGHBOUR: 'it returns false'. Refute it at one input. -/
def heardOnlyWrong : ChangeSpec := { name := "heardOnly", fn := fun _ => fun
  | [d1, d2] => { results := [.lit (.bool false)], args := [d1, d2] }
  | _ => none }
def HeardOnlyWrongFalsely : Prop := heardOnlyRow.holds Try.pinned (OpenSpec.ofChange heardOnlyWrong)

/- THE SECOND FORM. 'bulk': how many values and letters a reading holds, each counted each time it is reached (what is shared counts as often as it is met; a slice's spare places count too). A statement '..UptoSaid' is the law's where the arguments, and the package variables that the reading takes, are together of bulk at most 1048576: NARROWER than '..Said'. Prove '..Said' where nothing that the law and all that it calls make is longer than what came in: it says more and counts as full. Else prove '..UptoSaid'. A law counts once. -/
mutual
def uptoBulk {H : Type} : DataW H → Nat
  | .lit (.string bytes) => bytes.length + 1
  | .lit _ => 1
  | .nil => 1
  | .ptr d => uptoBulk d + 1
  | .slice elems spare => uptoBulkAll elems + uptoBulkAll spare + 1
  | .agg parts => uptoBulkAll parts + 1
  | .iface _ d => uptoBulk d + 1
  | .map entries => uptoBulkEntries entries + 1
  | .held _ => 1
def uptoBulkAll {H : Type} : List (DataW H) → Nat
  | [] => 0
  | d :: r => uptoBulk d + uptoBulkAll r
def uptoBulkEntries {H : Type} : List (Lit × DataW H) → Nat
  | [] => 0
  | x :: r => uptoBulkEntry x + uptoBulkEntries r
def uptoBulkEntry {H : Type} : Lit × DataW H → Nat
  | (.string bytes, d) => bytes.length + uptoBulk d + 1
  | (_, d) => uptoBulk d + 1
 end
def uptoSmall : (H : Type) → List (DataW H) → Bool := fun _ ds => decide (uptoBulkAll ds ≤ 1048576)
def OpenSpec.upto (s : _root_.Go.ChangeSpec) : _root_.Go.OpenSpec := { _root_.Go.OpenSpec.ofChange s with cond := some uptoSmall }

/-- 'pontagelaw10.HeardTakes', WHERE WHAT IT READS IS OF BULK AT MOST 1048576: true; the input reads as it did. -/
def heardTakesUptoRow : OpenClaim := { program := "ytllhaedeemcmmaa", sum := "e9b44836af2b7689231c58c581968c42bd5a3d2752f8696a13c4739a3544ec65", func := "pontage/pontagelaw10.HeardTakes", spec := "heardTakes", apart := false, narrowed := true }
def HeardTakesUptoSaid : Prop := heardTakesUptoRow.holds Try.pinned (OpenSpec.upto heardTakesSpec)

/-- 'pontagelaw10.HeardOne', WHERE WHAT IT READS IS OF BULK AT MOST 1048576: true; the input reads as it did. -/
def heardOneUptoRow : OpenClaim := { program := "ytllhaedeemcmmaa", sum := "e9b44836af2b7689231c58c581968c42bd5a3d2752f8696a13c4739a3544ec65", func := "pontage/pontagelaw10.HeardOne", spec := "heardOne", apart := false, narrowed := true }
def HeardOneUptoSaid : Prop := heardOneUptoRow.holds Try.pinned (OpenSpec.upto heardOneSpec)

/-- 'pontagelaw10.HeardAgain', WHERE WHAT IT READS IS OF BULK AT MOST 1048576: true; the input reads as it did. -/
def heardAgainUptoRow : OpenClaim := { program := "ytllhaedeemcmmaa", sum := "e9b44836af2b7689231c58c581968c42bd5a3d2752f8696a13c4739a3544ec65", func := "pontage/pontagelaw10.HeardAgain", spec := "heardAgain", apart := false, narrowed := true }
def HeardAgainUptoSaid : Prop := heardAgainUptoRow.holds Try.pinned (OpenSpec.upto heardAgainSpec)

/-- 'pontagelaw10.HeardInfos', WHERE WHAT IT READS IS OF BULK AT MOST 1048576: true; the input reads as it did. -/
def heardInfosUptoRow : OpenClaim := { program := "ytllhaedeemcmmaa", sum := "e9b44836af2b7689231c58c581968c42bd5a3d2752f8696a13c4739a3544ec65", func := "pontage/pontagelaw10.HeardInfos", spec := "heardInfos", apart := false, narrowed := true }
def HeardInfosUptoSaid : Prop := heardInfosUptoRow.holds Try.pinned (OpenSpec.upto heardInfosSpec)

/-- 'pontagelaw10.HeardAges', WHERE WHAT IT READS IS OF BULK AT MOST 1048576: true; the input reads as it did. -/
def heardAgesUptoRow : OpenClaim := { program := "ytllhaedeemcmmaa", sum := "e9b44836af2b7689231c58c581968c42bd5a3d2752f8696a13c4739a3544ec65", func := "pontage/pontagelaw10.HeardAges", spec := "heardAges", apart := false, narrowed := true }
def HeardAgesUptoSaid : Prop := heardAgesUptoRow.holds Try.pinned (OpenSpec.upto heardAgesSpec)

/-- 'pontagelaw10.HeardAgrees', WHERE WHAT IT READS IS OF BULK AT MOST 1048576: true; the input reads as it did. -/
def heardAgreesUptoRow : OpenClaim := { program := "ytllhaedeemcmmaa", sum := "e9b44836af2b7689231c58c581968c42bd5a3d2752f8696a13c4739a3544ec65", func := "pontage/pontagelaw10.HeardAgrees", spec := "heardAgrees", unfollowed := true, recurses := true, apart := false, narrowed := true }
def HeardAgreesUptoSaid : Prop := heardAgreesUptoRow.holds Try.pinned (OpenSpec.upto heardAgreesSpec)

/-- 'pontagelaw10.HeardRecords', WHERE WHAT IT READS IS OF BULK AT MOST 1048576: true; the input reads as it did. -/
def heardRecordsUptoRow : OpenClaim := { program := "ytllhaedeemcmmaa", sum := "e9b44836af2b7689231c58c581968c42bd5a3d2752f8696a13c4739a3544ec65", func := "pontage/pontagelaw10.HeardRecords", spec := "heardRecords", unfollowed := true, recurses := true, apart := false, narrowed := true }
def HeardRecordsUptoSaid : Prop := heardRecordsUptoRow.holds Try.pinned (OpenSpec.upto heardRecordsSpec)

/-- 'pontagelaw10.HeardOnly', WHERE WHAT IT READS IS OF BULK AT MOST 1048576: true; the input reads as it did. -/
def heardOnlyUptoRow : OpenClaim := { program := "ytllhaedeemcmmaa", sum := "e9b44836af2b7689231c58c581968c42bd5a3d2752f8696a13c4739a3544ec65", func := "pontage/pontagelaw10.HeardOnly", spec := "heardOnly", unfollowed := true, recurses := true, apart := false, narrowed := true }
def HeardOnlyUptoSaid : Prop := heardOnlyUptoRow.holds Try.pinned (OpenSpec.upto heardOnlySpec)

end Rows
end Go.Proofs.Ytllhaedeemcmmaa
