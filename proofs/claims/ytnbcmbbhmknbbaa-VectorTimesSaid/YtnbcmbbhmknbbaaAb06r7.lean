/- The statement is proved: whatever its arguments are, the law returns true, and each argument reads as it did; there is no further condition. -/
import Derived.Test.YtnbcmbbhmknbbaaAb06c
import Derived.Test.YtnbcmbbhmknbbaaRows
set_option maxRecDepth 100000
set_option maxHeartbeats 4000000
set_option linter.unusedVariables false
namespace Go.Proofs.Ytnbcmbbhmknbbaa.Own
open Go Ab Ab06 Go.ChangeShapes Go.WideShapes Go.ChangeAt Go.RowKit
theorem own_none : ownKnob Go.Proofs.Try.prog.godebug = none := by kernel_rfl
theorem laid : laidOutB Go.Proofs.Try.prog = true := by kernel_rfl
theorem law7_all : ∀ avs, All2 (ArgK.has kd) [.agg [.int .u8, .int .u8, .int .u8, .int .u8]] avs → ∃ h', (s7 avs []).eval = some (.c (.bool true), h') := by
  intro avs h
  obtain ⟨v0, a0, rfl, b0, t0⟩ := h.uncons
  obtain ⟨l0, rfl, m0_0⟩ := b0
  obtain ⟨c0, r0_0, rfl, k0, m0_1⟩ := m0_0.uncons
  obtain ⟨x0, rfl, w0⟩ := has_int k0
  obtain ⟨c1, r0_1, rfl, k1, m0_2⟩ := m0_1.uncons
  obtain ⟨x1, rfl, w1⟩ := has_int k1
  obtain ⟨c2, r0_2, rfl, k2, m0_3⟩ := m0_2.uncons
  obtain ⟨x2, rfl, w2⟩ := has_int k2
  obtain ⟨c3, r0_3, rfl, k3, m0_4⟩ := m0_3.uncons
  obtain ⟨x3, rfl, w3⟩ := has_int k3
  obtain rfl := m0_4.unnil
  obtain rfl := t0.unnil
  have key : g7 x0 x1 x2 x3 = true := law7 (rg_u8 w0) (rg_u8 w1) (rg_u8 w2) (rg_u8 w3)
  refine ⟨[], ?_⟩
  show some (AV.c (.bool (g7 x0 x1 x2 x3)), ([] : List Blk)) = _
  rw [key]
set_option maxRecDepth 100000 in
theorem lift7 (os : Os) (started : os.Started) (H : Type) (enc : TypeId × Value → H) :
    ReturnsInHanded {} Go.Proofs.Try.checked os 7 .any (Go.Proofs.Ytnbcmbbhmknbbaa.Rows.vectorTimesSpec.pre6 enc Go.Proofs.Try.prog Go.Proofs.Try.f7 Go.Proofs.Ytnbcmbbhmknbbaa.Rows.vectorTimesRow.domain false) (Go.Proofs.Ytnbcmbbhmknbbaa.Rows.vectorTimesSpec.post enc Go.Proofs.Try.prog Go.Proofs.Try.f7 false true false false) :=
  row_lift (C := Go.Proofs.Try.checked) own_none started (by kernel_rfl) Go.Proofs.Try.func7 rfl laid (by kernel_rfl) (tb := 4) (by kernel_rfl) (by kernel_rfl)
    (fun ds h => by
      have h : ds.length = 1 := h.trans (by kernel_rfl)
      match ds, h with
      | [d0], _ => rfl)
    (ChangeSpec.witness6 (enc := enc) (C := Go.Proofs.Try.checked) false ⟨#[], #[.agg #[.int .u8 0, .int .u8 0, .int .u8 0, .int .u8 0]], []⟩ 8 (by kernel_rfl) (by kernel_rfl) (by kernel_rfl) (by kernel_rfl))
    kd_all (ks := [.agg [.int .u8, .int .u8, .int .u8, .int .u8]]) (by kernel_rfl) s7_ok law7_all
theorem said7 : Go.Proofs.Ytnbcmbbhmknbbaa.Rows.VectorTimesSaid :=
  OpenClaim.holds_of_wide (p := Go.Proofs.Ytnbcmbbhmknbbaa.Try.pinned) (s := Go.Proofs.Ytnbcmbbhmknbbaa.Rows.vectorTimesSpec) (c := Go.Proofs.Ytnbcmbbhmknbbaa.Rows.vectorTimesRow) 7 Go.Proofs.Try.f7 rfl rfl rfl rfl rfl rfl rfl ⟨rfl, rfl, rfl, rfl, rfl⟩ rfl rfl rfl rfl rfl (by kernel_rfl) Go.Proofs.Try.func7 (by kernel_rfl)
    (of_decide_eq_true (by kernel_rfl)) (by unfold Func.isWrapper; first | (rw [if_pos (by decide +kernel)]; kernel_rfl) | (rw [if_neg (by decide +kernel)]; exact ⟨rfl, rfl⟩))
    (fun os started H enc _ => lift7 os started H enc)
end Go.Proofs.Ytnbcmbbhmknbbaa.Own
