/- The statement is proved: whatever its arguments are, the law returns true, and each argument reads as it did; there is no further condition. -/
import Derived.Test.YtnadglhkghmdlaaAb22e
import Derived.Test.YtnadglhkghmdlaaAbArith
import Derived.Test.YtnadglhkghmdlaaRows
set_option maxRecDepth 100000
set_option maxHeartbeats 4000000
set_option linter.unusedVariables false
namespace Go.Proofs.Ytnadglhkghmdlaa.Own
open Go Ab Ab22 Go.ChangeShapes Go.WideShapes Go.ChangeAt Go.RowKit
theorem own_none : ownKnob Go.Proofs.Try.prog.godebug = none := by kernel_rfl
theorem laid : laidOutB Go.Proofs.Try.prog = true := by kernel_rfl
theorem law6_all : ∀ avs, All2 (ArgK.has kd) [.rows 0, .one (.int .i64), .one (.int .i64)] avs → ∃ h', (s6 avs []).eval = some (.c (.bool true), h') := by
  intro avs h
  obtain ⟨v0, a0, rfl, b0, t0⟩ := h.uncons
  obtain ⟨x0, rfl, u0, w0⟩ := b0
  obtain ⟨v1, a1, rfl, b1, t1⟩ := t0.uncons
  obtain ⟨c1, rfl, k1⟩ := b1
  obtain ⟨x1, rfl, w1⟩ := has_int k1
  obtain ⟨v2, a2, rfl, b2, t2⟩ := t1.uncons
  obtain ⟨c2, rfl, k2⟩ := b2
  obtain ⟨x2, rfl, w2⟩ := has_int k2
  obtain rfl := t2.unnil
  have key : g6 x0 x1 x2 = some true := law6 x0 x1 x2
  refine ⟨[], ?_⟩
  show (Res.opt (g6 x0 x1 x2) fun r => Res.val (AV.c (.bool r), ([] : List Blk))).eval = _
  rw [key]; rfl
set_option maxRecDepth 100000 in
theorem lift6 (os : Os) (started : os.Started) (H : Type) (enc : TypeId × Value → H) :
    ReturnsInHanded {} Go.Proofs.Try.checked os 6 .any (Go.Proofs.Ytnadglhkghmdlaa.Rows.tallyDiffsSpec.pre6 enc Go.Proofs.Try.prog Go.Proofs.Try.f6 Go.Proofs.Ytnadglhkghmdlaa.Rows.tallyDiffsRow.domain false) (Go.Proofs.Ytnadglhkghmdlaa.Rows.tallyDiffsSpec.post enc Go.Proofs.Try.prog Go.Proofs.Try.f6 false true false false) :=
  row_lift (C := Go.Proofs.Try.checked) own_none started (by kernel_rfl) Go.Proofs.Try.func6 rfl laid (by kernel_rfl) (tb := 4) (by kernel_rfl) (by kernel_rfl)
    (fun ds h => by
      have h : ds.length = 3 := h.trans (by kernel_rfl)
      match ds, h with
      | [d0, d1, d2], _ => rfl)
    (ChangeSpec.witness6 (enc := enc) (C := Go.Proofs.Try.checked) false ⟨#[], #[.slice none 0 0, .int .i64 0, .int .i64 0], []⟩ 8 (by kernel_rfl) (by kernel_rfl) (by kernel_rfl) (by kernel_rfl))
    kd_all (ks := [.rows 0, .one (.int .i64), .one (.int .i64)]) (by kernel_rfl) s6_ok law6_all
theorem said6 : Go.Proofs.Ytnadglhkghmdlaa.Rows.TallyDiffsSaid :=
  OpenClaim.holds_of_wide (p := Go.Proofs.Ytnadglhkghmdlaa.Try.pinned) (s := Go.Proofs.Ytnadglhkghmdlaa.Rows.tallyDiffsSpec) (c := Go.Proofs.Ytnadglhkghmdlaa.Rows.tallyDiffsRow) 6 Go.Proofs.Try.f6 rfl rfl rfl rfl rfl rfl rfl ⟨rfl, rfl, rfl, rfl, rfl⟩ rfl rfl rfl rfl rfl (by kernel_rfl) Go.Proofs.Try.func6 (by kernel_rfl)
    (of_decide_eq_true (by kernel_rfl)) (by unfold Func.isWrapper; first | (rw [if_pos (by decide +kernel)]; kernel_rfl) | (rw [if_neg (by decide +kernel)]; exact ⟨rfl, rfl⟩))
    (fun os started H enc _ => lift6 os started H enc)
end Go.Proofs.Ytnadglhkghmdlaa.Own
