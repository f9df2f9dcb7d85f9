/- The statement is proved: whatever its arguments are, the law returns true, and each argument reads as it did; there is no further condition. -/
import Derived.Test.YtdflhpknkcjfpaaAb25c
import Derived.Test.YtdflhpknkcjfpaaAbArith
import Derived.Test.YtdflhpknkcjfpaaRows
set_option maxRecDepth 100000
set_option maxHeartbeats 4000000
set_option linter.unusedVariables false
namespace Go.Proofs.Ytdflhpknkcjfpaa.Own
open Go Ab Ab25 Go.ChangeShapes Go.WideShapes Go.ChangeAt Go.RowKit
theorem own_none : ownKnob Go.Proofs.Try.prog.godebug = none := by kernel_rfl
theorem laid : laidOutB Go.Proofs.Try.prog = true := by kernel_rfl
theorem law6_all : ∀ avs, All2 (ArgK.has kd) [.mix ks1] avs → ∃ h', (s6 avs []).eval = some (.c (.bool true), h') := by
  intro avs h
  obtain ⟨v0, a0, rfl, b0, t0⟩ := h.uncons
  obtain ⟨l0, rfl, w0⟩ := b0
  obtain ⟨x0, rfl⟩ := mx1_all l0 w0
  obtain rfl := t0.unnil
  have key : g6 x0 = some true := nobody x0
  refine ⟨[], ?_⟩
  show (Res.opt (g6 x0) fun r => Res.val (AV.c (.bool r), ([] : List Blk))).eval = _
  rw [key]; rfl
set_option maxRecDepth 100000 in
theorem lift6 (os : Os) (started : os.Started) (H : Type) (enc : TypeId × Value → H) :
    ReturnsInHanded {} Go.Proofs.Try.checked os 6 .any (Go.Proofs.Ytdflhpknkcjfpaa.Rows.wireNobodySpec.pre6 enc Go.Proofs.Try.prog Go.Proofs.Try.f6 Go.Proofs.Ytdflhpknkcjfpaa.Rows.wireNobodyRow.domain false) (Go.Proofs.Ytdflhpknkcjfpaa.Rows.wireNobodySpec.post enc Go.Proofs.Try.prog Go.Proofs.Try.f6 false true false false) :=
  row_lift (C := Go.Proofs.Try.checked) own_none started (by kernel_rfl) Go.Proofs.Try.func6 rfl laid (by kernel_rfl) (tb := 4) (by kernel_rfl) (by kernel_rfl)
    (fun ds h => by
      have h : ds.length = 1 := h.trans (by kernel_rfl)
      match ds, h with
      | [d0], _ => rfl)
    (ChangeSpec.witness6 (enc := enc) (C := Go.Proofs.Try.checked) false ⟨#[], #[.agg #[.int .i64 0, .int .i64 0, .int .i64 0, .slice none 0 0, .bool false]], []⟩ 8 (by kernel_rfl) (by kernel_rfl) (by kernel_rfl) (by kernel_rfl))
    kd_all (ks := [.mix ks1]) (by kernel_rfl) s6_ok law6_all
theorem said6 : Go.Proofs.Ytdflhpknkcjfpaa.Rows.WireNobodySaid :=
  OpenClaim.holds_of_wide (p := Go.Proofs.Ytdflhpknkcjfpaa.Try.pinned) (s := Go.Proofs.Ytdflhpknkcjfpaa.Rows.wireNobodySpec) (c := Go.Proofs.Ytdflhpknkcjfpaa.Rows.wireNobodyRow) 6 Go.Proofs.Try.f6 rfl rfl rfl rfl rfl rfl rfl ⟨rfl, rfl, rfl, rfl, rfl⟩ rfl rfl rfl rfl rfl (by kernel_rfl) Go.Proofs.Try.func6 (by kernel_rfl)
    (of_decide_eq_true (by kernel_rfl)) (by unfold Func.isWrapper; first | (rw [if_pos (by decide +kernel)]; kernel_rfl) | (rw [if_neg (by decide +kernel)]; exact ⟨rfl, rfl⟩))
    (fun os started H enc _ => lift6 os started H enc)
end Go.Proofs.Ytdflhpknkcjfpaa.Own
