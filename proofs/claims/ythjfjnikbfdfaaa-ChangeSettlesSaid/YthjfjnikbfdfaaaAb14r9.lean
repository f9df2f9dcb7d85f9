/- The statement is proved: whatever its arguments are, the law returns true, and each argument reads as it did; there is no further condition. -/
import Derived.Test.YthjfjnikbfdfaaaAb14f
import Derived.Test.YthjfjnikbfdfaaaAbArith
import Derived.Test.YthjfjnikbfdfaaaRows
set_option maxRecDepth 100000
set_option maxHeartbeats 4000000
set_option linter.unusedVariables false
namespace Go.Proofs.Ythjfjnikbfdfaaa.Own
open Go Ab Ab14 Go.ChangeShapes Go.WideShapes Go.ChangeAt Go.RowKit
theorem own_none : ownKnob Go.Proofs.Try.prog.godebug = none := by kernel_rfl
theorem laid : laidOutB Go.Proofs.Try.prog = true := by kernel_rfl
theorem law9_all : ∀ avs, All2 (ArgK.has kd) [.agg (kd 0)] avs → ∃ h', (s9 avs []).eval = some (.c (.bool true), h') := by
  intro avs h
  obtain ⟨v0, a0, rfl, b0, t0⟩ := h.uncons
  obtain ⟨l0, rfl, w0⟩ := b0
  obtain ⟨x0, rfl⟩ := kd_all.all 0 l0 (by decide) w0
  obtain rfl := t0.unnil
  have key : g9 x0 = some true := law9 x0
  refine ⟨[], ?_⟩
  show (Res.opt (g9 x0) fun r => Res.val (AV.c (.bool r), ([] : List Blk))).eval = _
  rw [key]; rfl
set_option maxRecDepth 100000 in
theorem lift9 (os : Os) (started : os.Started) (H : Type) (enc : TypeId × Value → H) :
    ReturnsInHanded {} Go.Proofs.Try.checked os 9 .any (Go.Proofs.Ythjfjnikbfdfaaa.Rows.changeSettlesSpec.pre6 enc Go.Proofs.Try.prog Go.Proofs.Try.f9 Go.Proofs.Ythjfjnikbfdfaaa.Rows.changeSettlesRow.domain false) (Go.Proofs.Ythjfjnikbfdfaaa.Rows.changeSettlesSpec.post enc Go.Proofs.Try.prog Go.Proofs.Try.f9 false true false false) :=
  row_lift (C := Go.Proofs.Try.checked) own_none started (by kernel_rfl) Go.Proofs.Try.func9 rfl laid (by kernel_rfl) (tb := 4) (by kernel_rfl) (by kernel_rfl)
    (fun ds h => by
      have h : ds.length = 1 := h.trans (by kernel_rfl)
      match ds, h with
      | [d0], _ => rfl)
    (ChangeSpec.witness6 (enc := enc) (C := Go.Proofs.Try.checked) false ⟨#[], #[.agg #[.int .u16 0, .int .u32 0, .bool false, .bool false, .bool false, .bool false, .bool false, .bool false, .bool false, .bool false, .bool false, .bool false, .bool false, .bool false, .bool false, .bool false, .bool false, .bool false, .bool false, .bool false, .bool false, .bool false, .bool false, .bool false, .bool false, .bool false, .bool false, .bool false, .bool false, .int .i64 0, .int .i64 0, .int .i64 0, .int .u64 0, .int .u32 0, .int .u64 0, .int .u16 0, .int .u64 0, .int .u32 0, .int .u64 0, .int .u16 0, .int .u8 0, .int .u8 0, .int .u8 0, .int .u8 0, .int .u8 0, .int .u8 0, .int .u8 0, .int .u8 0, .int .i64 0, .bool false, .bool false, .bool false, .bool false, .bool false, .bool false, .int .i64 0, .int .u64 0, .int .u32 0, .int .u64 0, .int .u16 0, .int .u8 0, .int .u8 0, .int .u8 0, .int .u8 0, .int .u8 0, .int .u8 0, .int .u8 0, .int .u8 0, .int .u8 0, .int .u8 0, .int .u8 0, .int .u8 0, .int .i64 0, .int .i64 0, .int .i64 0, .int .i64 0, .int .i64 0]], []⟩ 8 (by kernel_rfl) (by kernel_rfl) (by kernel_rfl) (by kernel_rfl))
    kd_all (ks := [.agg (kd 0)]) (by kernel_rfl) s9_ok law9_all
theorem said9 : Go.Proofs.Ythjfjnikbfdfaaa.Rows.ChangeSettlesSaid :=
  OpenClaim.holds_of_wide (p := Go.Proofs.Ythjfjnikbfdfaaa.Try.pinned) (s := Go.Proofs.Ythjfjnikbfdfaaa.Rows.changeSettlesSpec) (c := Go.Proofs.Ythjfjnikbfdfaaa.Rows.changeSettlesRow) 9 Go.Proofs.Try.f9 rfl rfl rfl rfl rfl rfl rfl ⟨rfl, rfl, rfl, rfl, rfl⟩ rfl rfl rfl rfl rfl (by kernel_rfl) Go.Proofs.Try.func9 (by kernel_rfl)
    (of_decide_eq_true (by kernel_rfl)) (by unfold Func.isWrapper; first | (rw [if_pos (by decide +kernel)]; kernel_rfl) | (rw [if_neg (by decide +kernel)]; exact ⟨rfl, rfl⟩))
    (fun os started H enc _ => lift9 os started H enc)
end Go.Proofs.Ythjfjnikbfdfaaa.Own
