/- The statement is proved: whatever its arguments are, the law returns true, and each argument reads as it did; there is no further condition. -/
import Derived.Test.YtnbcmbbhmknbbaaAb06c
import Derived.Test.YtnbcmbbhmknbbaaRows
set_option maxRecDepth 100000
set_option maxHeartbeats 4000000
set_option linter.unusedVariables false
namespace Go.Proofs.Ytnbcmbbhmknbbaa.Own
open Go Ab Ab06 Go.ChangeShapes Go.WideShapes Go.ChangeAt Go.RowKit
theorem own_none : ownKnob Go.Proofs.Try.prog.godebug = none := by kernel_rfl
theorem laid : laidOutB Go.Proofs.Try.prog = true := by kernel_rfl
theorem law4_all : ∀ avs, All2 (ArgK.has kd) [.agg [.int .u64, .int .u32, .int .u64, .int .u16], .agg [.int .u64, .int .u32, .int .u64, .int .u16], .agg [.int .u64, .int .u32, .int .u64, .int .u16]] avs → ∃ h', (s4 avs []).eval = some (.c (.bool true), h') := by
  intro avs h
  obtain ⟨v0, a0, rfl, b0, t0⟩ := h.uncons
  obtain ⟨l0, rfl, m0_0⟩ := b0
  obtain ⟨c0, r0_0, rfl, k0, m0_1⟩ := m0_0.uncons
  obtain ⟨x0, rfl, w0⟩ := has_int k0
  obtain ⟨c1, r0_1, rfl, k1, m0_2⟩ := m0_1.uncons
  obtain ⟨x1, rfl, w1⟩ := has_int k1
  obtain ⟨c2, r0_2, rfl, k2, m0_3⟩ := m0_2.uncons
  obtain ⟨x2, rfl, w2⟩ := has_int k2
  obtain ⟨c3, r0_3, rfl, k3, m0_4⟩ := m0_3.uncons
  obtain ⟨x3, rfl, w3⟩ := has_int k3
  obtain rfl := m0_4.unnil
  obtain ⟨v1, a1, rfl, b1, t1⟩ := t0.uncons
  obtain ⟨l1, rfl, m1_0⟩ := b1
  obtain ⟨c4, r1_0, rfl, k4, m1_1⟩ := m1_0.uncons
  obtain ⟨x4, rfl, w4⟩ := has_int k4
  obtain ⟨c5, r1_1, rfl, k5, m1_2⟩ := m1_1.uncons
  obtain ⟨x5, rfl, w5⟩ := has_int k5
  obtain ⟨c6, r1_2, rfl, k6, m1_3⟩ := m1_2.uncons
  obtain ⟨x6, rfl, w6⟩ := has_int k6
  obtain ⟨c7, r1_3, rfl, k7, m1_4⟩ := m1_3.uncons
  obtain ⟨x7, rfl, w7⟩ := has_int k7
  obtain rfl := m1_4.unnil
  obtain ⟨v2, a2, rfl, b2, t2⟩ := t1.uncons
  obtain ⟨l2, rfl, m2_0⟩ := b2
  obtain ⟨c8, r2_0, rfl, k8, m2_1⟩ := m2_0.uncons
  obtain ⟨x8, rfl, w8⟩ := has_int k8
  obtain ⟨c9, r2_1, rfl, k9, m2_2⟩ := m2_1.uncons
  obtain ⟨x9, rfl, w9⟩ := has_int k9
  obtain ⟨c10, r2_2, rfl, k10, m2_3⟩ := m2_2.uncons
  obtain ⟨x10, rfl, w10⟩ := has_int k10
  obtain ⟨c11, r2_3, rfl, k11, m2_4⟩ := m2_3.uncons
  obtain ⟨x11, rfl, w11⟩ := has_int k11
  obtain rfl := m2_4.unnil
  obtain rfl := t2.unnil
  have key : g4 x0 x1 x2 x3 x4 x5 x6 x7 x8 x9 x10 x11 = true := law4 ⟨rg_u64 w0, rg_u32 w1, rg_u64 w2, rg_u16 w3⟩ ⟨rg_u64 w4, rg_u32 w5, rg_u64 w6, rg_u16 w7⟩ ⟨rg_u64 w8, rg_u32 w9, rg_u64 w10, rg_u16 w11⟩
  refine ⟨[], ?_⟩
  show some (AV.c (.bool (g4 x0 x1 x2 x3 x4 x5 x6 x7 x8 x9 x10 x11)), ([] : List Blk)) = _
  rw [key]
set_option maxRecDepth 100000 in
theorem lift4 (os : Os) (started : os.Started) (H : Type) (enc : TypeId × Value → H) :
    ReturnsInHanded {} Go.Proofs.Try.checked os 4 .any (Go.Proofs.Ytnbcmbbhmknbbaa.Rows.vectorOrderSpec.pre6 enc Go.Proofs.Try.prog Go.Proofs.Try.f4 Go.Proofs.Ytnbcmbbhmknbbaa.Rows.vectorOrderRow.domain false) (Go.Proofs.Ytnbcmbbhmknbbaa.Rows.vectorOrderSpec.post enc Go.Proofs.Try.prog Go.Proofs.Try.f4 false true false false) :=
  row_lift (C := Go.Proofs.Try.checked) own_none started (by kernel_rfl) Go.Proofs.Try.func4 rfl laid (by kernel_rfl) (tb := 4) (by kernel_rfl) (by kernel_rfl)
    (fun ds h => by
      have h : ds.length = 3 := h.trans (by kernel_rfl)
      match ds, h with
      | [d0, d1, d2], _ => rfl)
    (ChangeSpec.witness6 (enc := enc) (C := Go.Proofs.Try.checked) false ⟨#[], #[.agg #[.int .u64 0, .int .u32 0, .int .u64 0, .int .u16 0], .agg #[.int .u64 0, .int .u32 0, .int .u64 0, .int .u16 0], .agg #[.int .u64 0, .int .u32 0, .int .u64 0, .int .u16 0]], []⟩ 8 (by kernel_rfl) (by kernel_rfl) (by kernel_rfl) (by kernel_rfl))
    kd_all (ks := [.agg [.int .u64, .int .u32, .int .u64, .int .u16], .agg [.int .u64, .int .u32, .int .u64, .int .u16], .agg [.int .u64, .int .u32, .int .u64, .int .u16]]) (by kernel_rfl) s4_ok law4_all
theorem said4 : Go.Proofs.Ytnbcmbbhmknbbaa.Rows.VectorOrderSaid :=
  OpenClaim.holds_of_wide (p := Go.Proofs.Ytnbcmbbhmknbbaa.Try.pinned) (s := Go.Proofs.Ytnbcmbbhmknbbaa.Rows.vectorOrderSpec) (c := Go.Proofs.Ytnbcmbbhmknbbaa.Rows.vectorOrderRow) 4 Go.Proofs.Try.f4 rfl rfl rfl rfl rfl rfl rfl ⟨rfl, rfl, rfl, rfl, rfl⟩ rfl rfl rfl rfl rfl (by kernel_rfl) Go.Proofs.Try.func4 (by kernel_rfl)
    (of_decide_eq_true (by kernel_rfl)) (by unfold Func.isWrapper; first | (rw [if_pos (by decide +kernel)]; kernel_rfl) | (rw [if_neg (by decide +kernel)]; exact ⟨rfl, rfl⟩))
    (fun os started H enc _ => lift4 os started H enc)
end Go.Proofs.Ytnbcmbbhmknbbaa.Own
