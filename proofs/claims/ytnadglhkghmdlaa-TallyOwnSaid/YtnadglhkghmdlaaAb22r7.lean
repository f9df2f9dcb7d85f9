/- The statement is proved: whatever its arguments are, the law returns true, and each argument reads as it did; there is no further condition. -/
import Derived.Test.YtnadglhkghmdlaaAb22f
import Derived.Test.YtnadglhkghmdlaaAbArith
import Derived.Test.YtnadglhkghmdlaaRows
set_option maxRecDepth 100000
set_option maxHeartbeats 4000000
set_option linter.unusedVariables false
namespace Go.Proofs.Ytnadglhkghmdlaa.Own
open Go Ab Ab22 Go.ChangeShapes Go.WideShapes Go.ChangeAt Go.RowKit
theorem own_none : ownKnob Go.Proofs.Try.prog.godebug = none := by kernel_rfl
theorem laid : laidOutB Go.Proofs.Try.prog = true := by kernel_rfl
theorem law7_all : ∀ avs, All2 (ArgK.has kd) [.one (.int .i64), .one (.int .i64)] avs → ∃ h', (s7 avs []).eval = some (.c (.bool true), h') := by
  intro avs h
  obtain ⟨v0, a0, rfl, b0, t0⟩ := h.uncons
  obtain ⟨c0, rfl, k0⟩ := b0
  obtain ⟨x0, rfl, w0⟩ := has_int k0
  obtain ⟨v1, a1, rfl, b1, t1⟩ := t0.uncons
  obtain ⟨c1, rfl, k1⟩ := b1
  obtain ⟨x1, rfl, w1⟩ := has_int k1
  obtain rfl := t1.unnil
  have key : g7 x0 x1 = some true := law7 x0 x1
  refine ⟨[], ?_⟩
  show (Res.opt (g7 x0 x1) fun r => Res.val (AV.c (.bool r), ([] : List Blk))).eval = _
  rw [key]; rfl
set_option maxRecDepth 100000 in
theorem lift7 (os : Os) (started : os.Started) (H : Type) (enc : TypeId × Value → H) :
    ReturnsInHanded {} Go.Proofs.Try.checked os 7 .any (Go.Proofs.Ytnadglhkghmdlaa.Rows.tallyOwnSpec.pre6 enc Go.Proofs.Try.prog Go.Proofs.Try.f7 Go.Proofs.Ytnadglhkghmdlaa.Rows.tallyOwnRow.domain false) (Go.Proofs.Ytnadglhkghmdlaa.Rows.tallyOwnSpec.post enc Go.Proofs.Try.prog Go.Proofs.Try.f7 false true false false) :=
  row_lift (C := Go.Proofs.Try.checked) own_none started (by kernel_rfl) Go.Proofs.Try.func7 rfl laid (by kernel_rfl) (tb := 4) (by kernel_rfl) (by kernel_rfl)
    (fun ds h => by
      have h : ds.length = 2 := h.trans (by kernel_rfl)
      match ds, h with
      | [d0, d1], _ => rfl)
    (ChangeSpec.witness6 (enc := enc) (C := Go.Proofs.Try.checked) false ⟨#[], #[.int .i64 0, .int .i64 0], []⟩ 8 (by kernel_rfl) (by kernel_rfl) (by kernel_rfl) (by kernel_rfl))
    kd_all (ks := [.one (.int .i64), .one (.int .i64)]) (by kernel_rfl) s7_ok law7_all
theorem said7 : Go.Proofs.Ytnadglhkghmdlaa.Rows.TallyOwnSaid :=
  OpenClaim.holds_of_wide (p := Go.Proofs.Ytnadglhkghmdlaa.Try.pinned) (s := Go.Proofs.Ytnadglhkghmdlaa.Rows.tallyOwnSpec) (c := Go.Proofs.Ytnadglhkghmdlaa.Rows.tallyOwnRow) 7 Go.Proofs.Try.f7 rfl rfl rfl rfl rfl rfl rfl ⟨rfl, rfl, rfl, rfl, rfl⟩ rfl rfl rfl rfl rfl (by kernel_rfl) Go.Proofs.Try.func7 (by kernel_rfl)
    (of_decide_eq_true (by kernel_rfl)) (by unfold Func.isWrapper; first | (rw [if_pos (by decide +kernel)]; kernel_rfl) | (rw [if_neg (by decide +kernel)]; exact ⟨rfl, rfl⟩))
    (fun os started H enc _ => lift7 os started H enc)
end Go.Proofs.Ytnadglhkghmdlaa.Own
