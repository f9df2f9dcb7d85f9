/- The statement is proved: whatever its arguments are, the law returns true, and each argument reads as it did; there is no further condition. -/
import Derived.Test.YtllohgmahflpaaaAb21oc
import Derived.Test.YtllohgmahflpaaaAbArith
import Derived.Test.YtllohgmahflpaaaRows
set_option maxRecDepth 100000
set_option maxHeartbeats 4000000
set_option linter.unusedVariables false
namespace Go.Proofs.Ytllohgmahflpaaa.Own
open Go Ab Ab21o Go.ChangeShapes Go.WideShapes Go.ChangeAt Go.RowKit
theorem own_none : ownKnob Go.Proofs.Try.prog.godebug = none := by kernel_rfl
theorem laid : laidOutB Go.Proofs.Try.prog = true := by kernel_rfl
theorem law3_all : ∀ avs, All2 (ArgK.has kd) [.one (.int .u8), .rowsM 1 ks1 mxa1_all] avs → ∃ h', (s3 avs []).eval = some (.c (.bool true), h') := by
  intro avs h
  obtain ⟨v0, a0, rfl, b0, t0⟩ := h.uncons
  obtain ⟨c0, rfl, k0⟩ := b0
  obtain ⟨x0, rfl, w0⟩ := has_int k0
  obtain ⟨v1, a1, rfl, b1, t1⟩ := t0.uncons
  obtain ⟨x1, rfl, u1, w1⟩ := b1
  obtain rfl := t1.unnil
  have key : g3 x0 x1 = some true := law3 x0 (by have := rg_u8 w0; omega) x1
  refine ⟨[], ?_⟩
  show (Res.opt (g3 x0 x1) fun r => Res.val (AV.c (.bool r), ([] : List Blk))).eval = _
  rw [key]; rfl
set_option maxRecDepth 100000 in
theorem lift3 (os : Os) (started : os.Started) (H : Type) (enc : TypeId × Value → H) :
    ReturnsInHanded {} Go.Proofs.Try.checked os 3 .any (Go.Proofs.Ytllohgmahflpaaa.Rows.queueOrderSpec.pre6 enc Go.Proofs.Try.prog Go.Proofs.Try.f3 Go.Proofs.Ytllohgmahflpaaa.Rows.queueOrderRow.domain false) (Go.Proofs.Ytllohgmahflpaaa.Rows.queueOrderSpec.post enc Go.Proofs.Try.prog Go.Proofs.Try.f3 false true false false) :=
  row_lift (C := Go.Proofs.Try.checked) own_none started (by kernel_rfl) Go.Proofs.Try.func3 rfl laid (by kernel_rfl) (tb := 4) (by kernel_rfl) (by kernel_rfl)
    (fun ds h => by
      have h : ds.length = 2 := h.trans (by kernel_rfl)
      match ds, h with
      | [d0, d1], _ => rfl)
    (ChangeSpec.witness6 (enc := enc) (C := Go.Proofs.Try.checked) false ⟨#[], #[.int .u8 0, .slice none 0 0], []⟩ 8 (by kernel_rfl) (by kernel_rfl) (by kernel_rfl) (by kernel_rfl))
    kd_all (ks := [.one (.int .u8), .rowsM 1 ks1 mxa1_all]) (by kernel_rfl) s3_ok law3_all
theorem said3 : Go.Proofs.Ytllohgmahflpaaa.Rows.QueueOrderSaid :=
  OpenClaim.holds_of_wide (p := Go.Proofs.Ytllohgmahflpaaa.Try.pinned) (s := Go.Proofs.Ytllohgmahflpaaa.Rows.queueOrderSpec) (c := Go.Proofs.Ytllohgmahflpaaa.Rows.queueOrderRow) 3 Go.Proofs.Try.f3 rfl rfl rfl rfl rfl rfl rfl ⟨rfl, rfl, rfl, rfl, rfl⟩ rfl rfl rfl rfl rfl (by kernel_rfl) Go.Proofs.Try.func3 (by kernel_rfl)
    (of_decide_eq_true (by kernel_rfl)) (by unfold Func.isWrapper; first | (rw [if_pos (by decide +kernel)]; kernel_rfl) | (rw [if_neg (by decide +kernel)]; exact ⟨rfl, rfl⟩))
    (fun os started H enc _ => lift3 os started H enc)
end Go.Proofs.Ytllohgmahflpaaa.Own
