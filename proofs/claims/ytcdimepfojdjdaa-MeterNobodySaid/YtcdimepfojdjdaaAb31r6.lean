/- The statement is proved: whatever its arguments are, the law returns true, and each argument reads as it did; there is no further condition. -/
import Derived.Test.YtcdimepfojdjdaaAb31d
import Derived.Test.YtcdimepfojdjdaaAbArith
import Derived.Test.YtcdimepfojdjdaaRows
set_option maxRecDepth 100000
set_option maxHeartbeats 4000000
set_option linter.unusedVariables false
namespace Go.Proofs.Ytcdimepfojdjdaa.Own
open Go Ab Ab31 Go.ChangeShapes Go.WideShapes Go.ChangeAt Go.RowKit
theorem own_none : ownKnob Go.Proofs.Try.prog.godebug = none := by kernel_rfl
theorem laid : laidOutB Go.Proofs.Try.prog = true := by kernel_rfl
theorem law6_all : ∀ avs, All2 (ArgK.has kd) [.one (.int .i64), .one (.int .i64), .one (.int .i64)] avs → ∃ h', (s6 avs []).eval = some (.c (.bool true), h') := by
  intro avs h
  obtain ⟨v0, a0, rfl, b0, t0⟩ := h.uncons
  obtain ⟨c0, rfl, k0⟩ := b0
  obtain ⟨x0, rfl, w0⟩ := has_int k0
  obtain ⟨v1, a1, rfl, b1, t1⟩ := t0.uncons
  obtain ⟨c1, rfl, k1⟩ := b1
  obtain ⟨x1, rfl, w1⟩ := has_int k1
  obtain ⟨v2, a2, rfl, b2, t2⟩ := t1.uncons
  obtain ⟨c2, rfl, k2⟩ := b2
  obtain ⟨x2, rfl, w2⟩ := has_int k2
  obtain rfl := t2.unnil
  have key : g6 x0 x1 x2 = some true := law6 x0 x1 x2
  refine ⟨[], ?_⟩
  show (Res.opt (g6 x0 x1 x2) fun r => Res.val (AV.c (.bool r), ([] : List Blk))).eval = _
  rw [key]; rfl
set_option maxRecDepth 100000 in
theorem lift6 (os : Os) (started : os.Started) (H : Type) (enc : TypeId × Value → H) :
    ReturnsInHanded {} Go.Proofs.Try.checked os 6 .any (Go.Proofs.Ytcdimepfojdjdaa.Rows.meterNobodySpec.pre6 enc Go.Proofs.Try.prog Go.Proofs.Try.f6 Go.Proofs.Ytcdimepfojdjdaa.Rows.meterNobodyRow.domain false) (Go.Proofs.Ytcdimepfojdjdaa.Rows.meterNobodySpec.post enc Go.Proofs.Try.prog Go.Proofs.Try.f6 false true false false) :=
  row_lift (C := Go.Proofs.Try.checked) own_none started (by kernel_rfl) Go.Proofs.Try.func6 rfl laid (by kernel_rfl) (tb := 4) (by kernel_rfl) (by kernel_rfl)
    (fun ds h => by
      have h : ds.length = 3 := h.trans (by kernel_rfl)
      match ds, h with
      | [d0, d1, d2], _ => rfl)
    (ChangeSpec.witness6 (enc := enc) (C := Go.Proofs.Try.checked) false ⟨#[], #[.int .i64 0, .int .i64 0, .int .i64 0], []⟩ 8 (by kernel_rfl) (by kernel_rfl) (by kernel_rfl) (by kernel_rfl))
    kd_all (ks := [.one (.int .i64), .one (.int .i64), .one (.int .i64)]) (by kernel_rfl) s6_ok law6_all
theorem said6 : Go.Proofs.Ytcdimepfojdjdaa.Rows.MeterNobodySaid :=
  OpenClaim.holds_of_wide (p := Go.Proofs.Ytcdimepfojdjdaa.Try.pinned) (s := Go.Proofs.Ytcdimepfojdjdaa.Rows.meterNobodySpec) (c := Go.Proofs.Ytcdimepfojdjdaa.Rows.meterNobodyRow) 6 Go.Proofs.Try.f6 rfl rfl rfl rfl rfl rfl rfl ⟨rfl, rfl, rfl, rfl, rfl⟩ rfl rfl rfl rfl rfl (by kernel_rfl) Go.Proofs.Try.func6 (by kernel_rfl)
    (of_decide_eq_true (by kernel_rfl)) (by unfold Func.isWrapper; first | (rw [if_pos (by decide +kernel)]; kernel_rfl) | (rw [if_neg (by decide +kernel)]; exact ⟨rfl, rfl⟩))
    (fun os started H enc _ => lift6 os started H enc)
end Go.Proofs.Ytcdimepfojdjdaa.Own
