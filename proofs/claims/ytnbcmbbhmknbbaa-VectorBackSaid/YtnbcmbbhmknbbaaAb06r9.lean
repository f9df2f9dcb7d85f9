/- The statement is proved: whatever its arguments are, the law returns true, and each argument reads as it did; there is no further condition. -/
import Derived.Test.YtnbcmbbhmknbbaaAb06c
import Derived.Test.YtnbcmbbhmknbbaaRows
set_option maxRecDepth 100000
set_option maxHeartbeats 4000000
set_option linter.unusedVariables false
namespace Go.Proofs.Ytnbcmbbhmknbbaa.Own
open Go Ab Ab06 Go.ChangeShapes Go.WideShapes Go.ChangeAt Go.RowKit
theorem own_none : ownKnob Go.Proofs.Try.prog.godebug = none := by kernel_rfl
theorem laid : laidOutB Go.Proofs.Try.prog = true := by kernel_rfl
theorem law9_all : ∀ avs, All2 (ArgK.has kd) [.one (.int .u64), .one (.int .u16), .agg [.int .u8, .int .u8, .int .u8, .int .u8, .int .u8, .int .u8]] avs → ∃ h', (s9 avs []).eval = some (.c (.bool true), h') := by
  intro avs h
  obtain ⟨v0, a0, rfl, b0, t0⟩ := h.uncons
  obtain ⟨c0, rfl, k0⟩ := b0
  obtain ⟨x0, rfl, w0⟩ := has_int k0
  obtain ⟨v1, a1, rfl, b1, t1⟩ := t0.uncons
  obtain ⟨c1, rfl, k1⟩ := b1
  obtain ⟨x1, rfl, w1⟩ := has_int k1
  obtain ⟨v2, a2, rfl, b2, t2⟩ := t1.uncons
  obtain ⟨l2, rfl, m2_0⟩ := b2
  obtain ⟨c2, r2_0, rfl, k2, m2_1⟩ := m2_0.uncons
  obtain ⟨x2, rfl, w2⟩ := has_int k2
  obtain ⟨c3, r2_1, rfl, k3, m2_2⟩ := m2_1.uncons
  obtain ⟨x3, rfl, w3⟩ := has_int k3
  obtain ⟨c4, r2_2, rfl, k4, m2_3⟩ := m2_2.uncons
  obtain ⟨x4, rfl, w4⟩ := has_int k4
  obtain ⟨c5, r2_3, rfl, k5, m2_4⟩ := m2_3.uncons
  obtain ⟨x5, rfl, w5⟩ := has_int k5
  obtain ⟨c6, r2_4, rfl, k6, m2_5⟩ := m2_4.uncons
  obtain ⟨x6, rfl, w6⟩ := has_int k6
  obtain ⟨c7, r2_5, rfl, k7, m2_6⟩ := m2_5.uncons
  obtain ⟨x7, rfl, w7⟩ := has_int k7
  obtain rfl := m2_6.unnil
  obtain rfl := t2.unnil
  have key : g9 x0 x1 x2 x3 x4 x5 x6 x7 = true := law9 (rg_u64 w0) (rg_u16 w1) (rg_u8 w2) (rg_u8 w3) (rg_u8 w4) (rg_u8 w5) (rg_u8 w6) (rg_u8 w7)
  refine ⟨[], ?_⟩
  show some (AV.c (.bool (g9 x0 x1 x2 x3 x4 x5 x6 x7)), ([] : List Blk)) = _
  rw [key]
set_option maxRecDepth 100000 in
theorem lift9 (os : Os) (started : os.Started) (H : Type) (enc : TypeId × Value → H) :
    ReturnsInHanded {} Go.Proofs.Try.checked os 9 .any (Go.Proofs.Ytnbcmbbhmknbbaa.Rows.vectorBackSpec.pre6 enc Go.Proofs.Try.prog Go.Proofs.Try.f9 Go.Proofs.Ytnbcmbbhmknbbaa.Rows.vectorBackRow.domain false) (Go.Proofs.Ytnbcmbbhmknbbaa.Rows.vectorBackSpec.post enc Go.Proofs.Try.prog Go.Proofs.Try.f9 false true false false) :=
  row_lift (C := Go.Proofs.Try.checked) own_none started (by kernel_rfl) Go.Proofs.Try.func9 rfl laid (by kernel_rfl) (tb := 4) (by kernel_rfl) (by kernel_rfl)
    (fun ds h => by
      have h : ds.length = 3 := h.trans (by kernel_rfl)
      match ds, h with
      | [d0, d1, d2], _ => rfl)
    (ChangeSpec.witness6 (enc := enc) (C := Go.Proofs.Try.checked) false ⟨#[], #[.int .u64 0, .int .u16 0, .agg #[.int .u8 0, .int .u8 0, .int .u8 0, .int .u8 0, .int .u8 0, .int .u8 0]], []⟩ 8 (by kernel_rfl) (by kernel_rfl) (by kernel_rfl) (by kernel_rfl))
    kd_all (ks := [.one (.int .u64), .one (.int .u16), .agg [.int .u8, .int .u8, .int .u8, .int .u8, .int .u8, .int .u8]]) (by kernel_rfl) s9_ok law9_all
theorem said9 : Go.Proofs.Ytnbcmbbhmknbbaa.Rows.VectorBackSaid :=
  OpenClaim.holds_of_wide (p := Go.Proofs.Ytnbcmbbhmknbbaa.Try.pinned) (s := Go.Proofs.Ytnbcmbbhmknbbaa.Rows.vectorBackSpec) (c := Go.Proofs.Ytnbcmbbhmknbbaa.Rows.vectorBackRow) 9 Go.Proofs.Try.f9 rfl rfl rfl rfl rfl rfl rfl ⟨rfl, rfl, rfl, rfl, rfl⟩ rfl rfl rfl rfl rfl (by kernel_rfl) Go.Proofs.Try.func9 (by kernel_rfl)
    (of_decide_eq_true (by kernel_rfl)) (by unfold Func.isWrapper; first | (rw [if_pos (by decide +kernel)]; kernel_rfl) | (rw [if_neg (by decide +kernel)]; exact ⟨rfl, rfl⟩))
    (fun os started H enc _ => lift9 os started H enc)
end Go.Proofs.Ytnbcmbbhmknbbaa.Own
