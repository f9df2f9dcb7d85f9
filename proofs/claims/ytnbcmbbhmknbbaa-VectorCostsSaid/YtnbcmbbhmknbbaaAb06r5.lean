/- The statement is proved: whatever its arguments are, the law returns true, and each argument reads as it did; there is no further condition. -/
import Derived.Test.YtnbcmbbhmknbbaaAb06c
import Derived.Test.YtnbcmbbhmknbbaaRows
set_option maxRecDepth 100000
set_option maxHeartbeats 4000000
set_option linter.unusedVariables false
namespace Go.Proofs.Ytnbcmbbhmknbbaa.Own
open Go Ab Ab06 Go.ChangeShapes Go.WideShapes Go.ChangeAt Go.RowKit
theorem own_none : ownKnob Go.Proofs.Try.prog.godebug = none := by kernel_rfl
theorem laid : laidOutB Go.Proofs.Try.prog = true := by kernel_rfl
theorem law5_all : ∀ avs, All2 (ArgK.has kd) [.agg [.int .u64, .int .u32, .int .u64, .int .u16], .agg [.int .u64, .int .u32, .int .u64, .int .u16], .one (.int .u32)] avs → ∃ h', (s5 avs []).eval = some (.c (.bool true), h') := by
  intro avs h
  obtain ⟨v0, a0, rfl, b0, t0⟩ := h.uncons
  obtain ⟨l0, rfl, m0_0⟩ := b0
  obtain ⟨c0, r0_0, rfl, k0, m0_1⟩ := m0_0.uncons
  obtain ⟨x0, rfl, w0⟩ := has_int k0
  obtain ⟨c1, r0_1, rfl, k1, m0_2⟩ := m0_1.uncons
  obtain ⟨x1, rfl, w1⟩ := has_int k1
  obtain ⟨c2, r0_2, rfl, k2, m0_3⟩ := m0_2.uncons
  obtain ⟨x2, rfl, w2⟩ := has_int k2
  obtain ⟨c3, r0_3, rfl, k3, m0_4⟩ := m0_3.uncons
  obtain ⟨x3, rfl, w3⟩ := has_int k3
  obtain rfl := m0_4.unnil
  obtain ⟨v1, a1, rfl, b1, t1⟩ := t0.uncons
  obtain ⟨l1, rfl, m1_0⟩ := b1
  obtain ⟨c4, r1_0, rfl, k4, m1_1⟩ := m1_0.uncons
  obtain ⟨x4, rfl, w4⟩ := has_int k4
  obtain ⟨c5, r1_1, rfl, k5, m1_2⟩ := m1_1.uncons
  obtain ⟨x5, rfl, w5⟩ := has_int k5
  obtain ⟨c6, r1_2, rfl, k6, m1_3⟩ := m1_2.uncons
  obtain ⟨x6, rfl, w6⟩ := has_int k6
  obtain ⟨c7, r1_3, rfl, k7, m1_4⟩ := m1_3.uncons
  obtain ⟨x7, rfl, w7⟩ := has_int k7
  obtain rfl := m1_4.unnil
  obtain ⟨v2, a2, rfl, b2, t2⟩ := t1.uncons
  obtain ⟨c8, rfl, k8⟩ := b2
  obtain ⟨x8, rfl, w8⟩ := has_int k8
  obtain rfl := t2.unnil
  have key : g5 x0 x1 x2 x3 x4 x5 x6 x7 x8 = true := law5 ⟨rg_u64 w0, rg_u32 w1, rg_u64 w2, rg_u16 w3⟩ ⟨rg_u64 w4, rg_u32 w5, rg_u64 w6, rg_u16 w7⟩ (rg_u32 w8)
  refine ⟨[], ?_⟩
  show some (AV.c (.bool (g5 x0 x1 x2 x3 x4 x5 x6 x7 x8)), ([] : List Blk)) = _
  rw [key]
set_option maxRecDepth 100000 in
theorem lift5 (os : Os) (started : os.Started) (H : Type) (enc : TypeId × Value → H) :
    ReturnsInHanded {} Go.Proofs.Try.checked os 5 .any (Go.Proofs.Ytnbcmbbhmknbbaa.Rows.vectorCostsSpec.pre6 enc Go.Proofs.Try.prog Go.Proofs.Try.f5 Go.Proofs.Ytnbcmbbhmknbbaa.Rows.vectorCostsRow.domain false) (Go.Proofs.Ytnbcmbbhmknbbaa.Rows.vectorCostsSpec.post enc Go.Proofs.Try.prog Go.Proofs.Try.f5 false true false false) :=
  row_lift (C := Go.Proofs.Try.checked) own_none started (by kernel_rfl) Go.Proofs.Try.func5 rfl laid (by kernel_rfl) (tb := 4) (by kernel_rfl) (by kernel_rfl)
    (fun ds h => by
      have h : ds.length = 3 := h.trans (by kernel_rfl)
      match ds, h with
      | [d0, d1, d2], _ => rfl)
    (ChangeSpec.witness6 (enc := enc) (C := Go.Proofs.Try.checked) false ⟨#[], #[.agg #[.int .u64 0, .int .u32 0, .int .u64 0, .int .u16 0], .agg #[.int .u64 0, .int .u32 0, .int .u64 0, .int .u16 0], .int .u32 0], []⟩ 8 (by kernel_rfl) (by kernel_rfl) (by kernel_rfl) (by kernel_rfl))
    kd_all (ks := [.agg [.int .u64, .int .u32, .int .u64, .int .u16], .agg [.int .u64, .int .u32, .int .u64, .int .u16], .one (.int .u32)]) (by kernel_rfl) s5_ok law5_all
theorem said5 : Go.Proofs.Ytnbcmbbhmknbbaa.Rows.VectorCostsSaid :=
  OpenClaim.holds_of_wide (p := Go.Proofs.Ytnbcmbbhmknbbaa.Try.pinned) (s := Go.Proofs.Ytnbcmbbhmknbbaa.Rows.vectorCostsSpec) (c := Go.Proofs.Ytnbcmbbhmknbbaa.Rows.vectorCostsRow) 5 Go.Proofs.Try.f5 rfl rfl rfl rfl rfl rfl rfl ⟨rfl, rfl, rfl, rfl, rfl⟩ rfl rfl rfl rfl rfl (by kernel_rfl) Go.Proofs.Try.func5 (by kernel_rfl)
    (of_decide_eq_true (by kernel_rfl)) (by unfold Func.isWrapper; first | (rw [if_pos (by decide +kernel)]; kernel_rfl) | (rw [if_neg (by decide +kernel)]; exact ⟨rfl, rfl⟩))
    (fun os started H enc _ => lift5 os started H enc)
end Go.Proofs.Ytnbcmbbhmknbbaa.Own
