/- The statement is proved: whatever its arguments are, the law returns true, and each argument reads as it did; there is no further condition. -/
import Derived.Test.YtdflhpknkcjfpaaAb25i
import Derived.Test.YtdflhpknkcjfpaaAbArith
import Derived.Test.YtdflhpknkcjfpaaRows
set_option maxRecDepth 100000
set_option maxHeartbeats 4000000
set_option linter.unusedVariables false
namespace Go.Proofs.Ytdflhpknkcjfpaa.Own
open Go Ab Ab25 Go.ChangeShapes Go.WideShapes Go.ChangeAt Go.RowKit
theorem own_none : ownKnob Go.Proofs.Try.prog.godebug = none := by kernel_rfl
theorem laid : laidOutB Go.Proofs.Try.prog = true := by kernel_rfl
theorem law3_all : ∀ avs, All2 (ArgK.has kd) [.rowsM 1 ks1 mxa1_all] avs → ∃ h', (s3 avs []).eval = some (.c (.bool true), h') := by
  intro avs h
  obtain ⟨v0, a0, rfl, b0, t0⟩ := h.uncons
  obtain ⟨x0, rfl, u0, w0⟩ := b0
  obtain rfl := t0.unnil
  have key : g3 x0 = some true := apart x0
  refine ⟨[], ?_⟩
  show (Res.opt (g3 x0) fun r => Res.val (AV.c (.bool r), ([] : List Blk))).eval = _
  rw [key]; rfl
set_option maxRecDepth 100000 in
theorem lift3 (os : Os) (started : os.Started) (H : Type) (enc : TypeId × Value → H) :
    ReturnsInHanded {} Go.Proofs.Try.checked os 3 .any (Go.Proofs.Ytdflhpknkcjfpaa.Rows.wireApartSpec.pre6 enc Go.Proofs.Try.prog Go.Proofs.Try.f3 Go.Proofs.Ytdflhpknkcjfpaa.Rows.wireApartRow.domain false) (Go.Proofs.Ytdflhpknkcjfpaa.Rows.wireApartSpec.post enc Go.Proofs.Try.prog Go.Proofs.Try.f3 false true false false) :=
  row_lift (C := Go.Proofs.Try.checked) own_none started (by kernel_rfl) Go.Proofs.Try.func3 rfl laid (by kernel_rfl) (tb := 4) (by kernel_rfl) (by kernel_rfl)
    (fun ds h => by
      have h : ds.length = 1 := h.trans (by kernel_rfl)
      match ds, h with
      | [d0], _ => rfl)
    (ChangeSpec.witness6 (enc := enc) (C := Go.Proofs.Try.checked) false ⟨#[], #[.slice none 0 0], []⟩ 8 (by kernel_rfl) (by kernel_rfl) (by kernel_rfl) (by kernel_rfl))
    kd_all (ks := [.rowsM 1 ks1 mxa1_all]) (by kernel_rfl) s3_ok law3_all
theorem said3 : Go.Proofs.Ytdflhpknkcjfpaa.Rows.WireApartSaid :=
  OpenClaim.holds_of_wide (p := Go.Proofs.Ytdflhpknkcjfpaa.Try.pinned) (s := Go.Proofs.Ytdflhpknkcjfpaa.Rows.wireApartSpec) (c := Go.Proofs.Ytdflhpknkcjfpaa.Rows.wireApartRow) 3 Go.Proofs.Try.f3 rfl rfl rfl rfl rfl rfl rfl ⟨rfl, rfl, rfl, rfl, rfl⟩ rfl rfl rfl rfl rfl (by kernel_rfl) Go.Proofs.Try.func3 (by kernel_rfl)
    (of_decide_eq_true (by kernel_rfl)) (by unfold Func.isWrapper; first | (rw [if_pos (by decide +kernel)]; kernel_rfl) | (rw [if_neg (by decide +kernel)]; exact ⟨rfl, rfl⟩))
    (fun os started H enc _ => lift3 os started H enc)
end Go.Proofs.Ytdflhpknkcjfpaa.Own
