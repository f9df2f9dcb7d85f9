/- The statement is proved: whatever its arguments are, the law returns true, and each argument reads as it did; there is no further condition. -/
import Derived.Test.YtllhaedeemcmmaaAb10c
import Derived.Test.YtllhaedeemcmmaaRows
set_option maxRecDepth 100000
set_option maxHeartbeats 4000000
set_option linter.unusedVariables false
namespace Go.Proofs.Ytllhaedeemcmmaa.Own
open Go Ab Ab10 Go.ChangeShapes Go.WideShapes Go.ChangeAt Go.RowKit
theorem own_none : ownKnob Go.Proofs.Try.prog.godebug = none := by kernel_rfl
theorem laid : laidOutB Go.Proofs.Try.prog = true := by kernel_rfl
theorem law10_all : ∀ avs, All2 (ArgK.has kd) [.agg (kd 0), .agg (kd 1)] avs → ∃ h', (s10 avs []).eval = some (.c (.bool true), h') := by
  intro avs h
  obtain ⟨v0, a0, rfl, b0, t0⟩ := h.uncons
  obtain ⟨l0, rfl, w0⟩ := b0
  obtain ⟨x0, rfl⟩ := kd_all.all 0 l0 w0
  obtain ⟨v1, a1, rfl, b1, t1⟩ := t0.uncons
  obtain ⟨l1, rfl, w1⟩ := b1
  obtain ⟨x1, rfl⟩ := kd_all.all 1 l1 w1
  obtain rfl := t1.unnil
  have key : g10 x0 x1 = true := law10 x0 x1
  refine ⟨[], ?_⟩
  show some (AV.c (.bool (g10 x0 x1)), ([] : List Blk)) = _
  rw [key]
set_option maxRecDepth 100000 in
theorem lift10 (os : Os) (started : os.Started) (H : Type) (enc : TypeId × Value → H) :
    ReturnsInHanded {} Go.Proofs.Try.checked os 10 .any (Go.Proofs.Ytllhaedeemcmmaa.Rows.heardOnlySpec.pre6 enc Go.Proofs.Try.prog Go.Proofs.Try.f10 Go.Proofs.Ytllhaedeemcmmaa.Rows.heardOnlyRow.domain false) (Go.Proofs.Ytllhaedeemcmmaa.Rows.heardOnlySpec.post enc Go.Proofs.Try.prog Go.Proofs.Try.f10 false true false false) :=
  row_lift (C := Go.Proofs.Try.checked) own_none started (by kernel_rfl) Go.Proofs.Try.func10 rfl laid (by kernel_rfl) (tb := 4) (by kernel_rfl) (by kernel_rfl)
    (fun ds h => by
      have h : ds.length = 2 := h.trans (by kernel_rfl)
      match ds, h with
      | [d0, d1], _ => rfl)
    (ChangeSpec.witness6 (enc := enc) (C := Go.Proofs.Try.checked) false ⟨#[], #[.agg #[.int .u16 0, .int .u32 0, .bool false, .bool false, .bool false, .bool false, .bool false, .bool false, .bool false, .bool false, .bool false, .bool false, .bool false, .bool false, .bool false, .bool false, .bool false, .bool false, .bool false, .bool false, .bool false, .bool false, .bool false, .bool false, .bool false, .bool false, .bool false, .bool false, .bool false, .int .i64 0, .int .i64 0, .int .i64 0, .int .u64 0, .int .u32 0, .int .u64 0, .int .u16 0, .int .u64 0, .int .u32 0, .int .u64 0, .int .u16 0, .int .u8 0, .int .u8 0, .int .u8 0, .int .u8 0, .int .u8 0, .int .u8 0, .int .u8 0, .int .u8 0, .int .i64 0, .bool false, .bool false, .bool false, .bool false, .bool false, .bool false, .int .i64 0, .int .u64 0, .int .u32 0, .int .u64 0, .int .u16 0, .int .u8 0, .int .u8 0, .int .u8 0, .int .u8 0, .int .u8 0, .int .u8 0, .int .u8 0, .int .u8 0, .int .u8 0, .int .u8 0, .int .u8 0, .int .u8 0, .int .i64 0, .int .i64 0, .int .i64 0, .int .i64 0, .int .i64 0], .agg #[.int .i64 0, .bool false, .bool false, .bool false, .bool false, .bool false, .bool false, .int .i64 0, .int .u64 0, .int .u32 0, .int .u64 0, .int .u16 0, .int .u8 0, .int .u8 0, .int .u8 0, .int .u8 0]], []⟩ 8 (by kernel_rfl) (by kernel_rfl) (by kernel_rfl) (by kernel_rfl))
    kd_all (ks := [.agg (kd 0), .agg (kd 1)]) (by kernel_rfl) s10_ok law10_all
theorem said10 : Go.Proofs.Ytllhaedeemcmmaa.Rows.HeardOnlySaid :=
  OpenClaim.holds_of_wide (p := Go.Proofs.Ytllhaedeemcmmaa.Try.pinned) (s := Go.Proofs.Ytllhaedeemcmmaa.Rows.heardOnlySpec) (c := Go.Proofs.Ytllhaedeemcmmaa.Rows.heardOnlyRow) 10 Go.Proofs.Try.f10 rfl rfl rfl rfl rfl rfl rfl ⟨rfl, rfl, rfl, rfl, rfl⟩ rfl rfl rfl rfl rfl (by kernel_rfl) Go.Proofs.Try.func10 (by kernel_rfl)
    (of_decide_eq_true (by kernel_rfl)) (by unfold Func.isWrapper; first | (rw [if_pos (by decide +kernel)]; kernel_rfl) | (rw [if_neg (by decide +kernel)]; exact ⟨rfl, rfl⟩))
    (fun os started H enc _ => lift10 os started H enc)
end Go.Proofs.Ytllhaedeemcmmaa.Own
