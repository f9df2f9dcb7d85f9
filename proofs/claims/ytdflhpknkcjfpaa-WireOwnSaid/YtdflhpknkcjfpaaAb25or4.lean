/- The statement is proved: whatever its arguments are, the law returns true, and each argument reads as it did; there is no further condition. -/
import Derived.Test.YtdflhpknkcjfpaaAb25oc
import Derived.Test.YtdflhpknkcjfpaaAbArith
import Derived.Test.YtdflhpknkcjfpaaRows
set_option maxRecDepth 100000
set_option maxHeartbeats 4000000
set_option linter.unusedVariables false
namespace Go.Proofs.Ytdflhpknkcjfpaa.Own
open Go Ab Ab25o Go.ChangeShapes Go.WideShapes Go.ChangeAt Go.RowKit
theorem own_none : ownKnob Go.Proofs.Try.prog.godebug = none := by kernel_rfl
theorem laid : laidOutB Go.Proofs.Try.prog = true := by kernel_rfl
theorem law4_all : ∀ avs, All2 (ArgK.has kd) [.rows 0] avs → ∃ h', (s4 avs []).eval = some (.c (.bool true), h') := by
  intro avs h
  obtain ⟨v0, a0, rfl, b0, t0⟩ := h.uncons
  obtain ⟨x0, rfl, u0, w0⟩ := b0
  obtain rfl := t0.unnil
  have key : g4 x0 = some true := law4 x0
  refine ⟨[], ?_⟩
  show (Res.opt (g4 x0) fun r => Res.val (AV.c (.bool r), ([] : List Blk))).eval = _
  rw [key]; rfl
set_option maxRecDepth 100000 in
theorem lift4 (os : Os) (started : os.Started) (H : Type) (enc : TypeId × Value → H) :
    ReturnsInHanded {} Go.Proofs.Try.checked os 4 .any (Go.Proofs.Ytdflhpknkcjfpaa.Rows.wireOwnSpec.pre6 enc Go.Proofs.Try.prog Go.Proofs.Try.f4 Go.Proofs.Ytdflhpknkcjfpaa.Rows.wireOwnRow.domain false) (Go.Proofs.Ytdflhpknkcjfpaa.Rows.wireOwnSpec.post enc Go.Proofs.Try.prog Go.Proofs.Try.f4 false true false false) :=
  row_lift (C := Go.Proofs.Try.checked) own_none started (by kernel_rfl) Go.Proofs.Try.func4 rfl laid (by kernel_rfl) (tb := 4) (by kernel_rfl) (by kernel_rfl)
    (fun ds h => by
      have h : ds.length = 1 := h.trans (by kernel_rfl)
      match ds, h with
      | [d0], _ => rfl)
    (ChangeSpec.witness6 (enc := enc) (C := Go.Proofs.Try.checked) false ⟨#[], #[.slice none 0 0], []⟩ 8 (by kernel_rfl) (by kernel_rfl) (by kernel_rfl) (by kernel_rfl))
    kd_all (ks := [.rows 0]) (by kernel_rfl) s4_ok law4_all
theorem said4 : Go.Proofs.Ytdflhpknkcjfpaa.Rows.WireOwnSaid :=
  OpenClaim.holds_of_wide (p := Go.Proofs.Ytdflhpknkcjfpaa.Try.pinned) (s := Go.Proofs.Ytdflhpknkcjfpaa.Rows.wireOwnSpec) (c := Go.Proofs.Ytdflhpknkcjfpaa.Rows.wireOwnRow) 4 Go.Proofs.Try.f4 rfl rfl rfl rfl rfl rfl rfl ⟨rfl, rfl, rfl, rfl, rfl⟩ rfl rfl rfl rfl rfl (by kernel_rfl) Go.Proofs.Try.func4 (by kernel_rfl)
    (of_decide_eq_true (by kernel_rfl)) (by unfold Func.isWrapper; first | (rw [if_pos (by decide +kernel)]; kernel_rfl) | (rw [if_neg (by decide +kernel)]; exact ⟨rfl, rfl⟩))
    (fun os started H enc _ => lift4 os started H enc)
end Go.Proofs.Ytdflhpknkcjfpaa.Own
