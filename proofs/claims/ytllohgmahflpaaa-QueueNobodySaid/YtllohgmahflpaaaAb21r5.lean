/- The statement is proved: whatever its arguments are, the law returns true, and each argument reads as it did; there is no further condition. -/
import Derived.Test.YtllohgmahflpaaaAb21d
import Derived.Test.YtllohgmahflpaaaAbArith
import Derived.Test.YtllohgmahflpaaaRows
set_option maxRecDepth 100000
set_option maxHeartbeats 4000000
set_option linter.unusedVariables false
namespace Go.Proofs.Ytllohgmahflpaaa.Own
open Go Ab Ab21 Go.ChangeShapes Go.WideShapes Go.ChangeAt Go.RowKit
theorem own_none : ownKnob Go.Proofs.Try.prog.godebug = none := by kernel_rfl
theorem laid : laidOutB Go.Proofs.Try.prog = true := by kernel_rfl
theorem law5_all : ∀ avs, All2 (ArgK.has kd) [.rows 0] avs → ∃ h', (s5 avs []).eval = some (.c (.bool true), h') := by
  intro avs h
  obtain ⟨v0, a0, rfl, b0, t0⟩ := h.uncons
  obtain ⟨x0, rfl, u0, w0⟩ := b0
  obtain rfl := t0.unnil
  have key : g5 x0 = some true := law5 x0
  refine ⟨[], ?_⟩
  show (Res.opt (g5 x0) fun r => Res.val (AV.c (.bool r), ([] : List Blk))).eval = _
  rw [key]; rfl
set_option maxRecDepth 100000 in
theorem lift5 (os : Os) (started : os.Started) (H : Type) (enc : TypeId × Value → H) :
    ReturnsInHanded {} Go.Proofs.Try.checked os 5 .any (Go.Proofs.Ytllohgmahflpaaa.Rows.queueNobodySpec.pre6 enc Go.Proofs.Try.prog Go.Proofs.Try.f5 Go.Proofs.Ytllohgmahflpaaa.Rows.queueNobodyRow.domain false) (Go.Proofs.Ytllohgmahflpaaa.Rows.queueNobodySpec.post enc Go.Proofs.Try.prog Go.Proofs.Try.f5 false true false false) :=
  row_lift (C := Go.Proofs.Try.checked) own_none started (by kernel_rfl) Go.Proofs.Try.func5 rfl laid (by kernel_rfl) (tb := 4) (by kernel_rfl) (by kernel_rfl)
    (fun ds h => by
      have h : ds.length = 1 := h.trans (by kernel_rfl)
      match ds, h with
      | [d0], _ => rfl)
    (ChangeSpec.witness6 (enc := enc) (C := Go.Proofs.Try.checked) false ⟨#[], #[.slice none 0 0], []⟩ 8 (by kernel_rfl) (by kernel_rfl) (by kernel_rfl) (by kernel_rfl))
    kd_all (ks := [.rows 0]) (by kernel_rfl) s5_ok law5_all
theorem said5 : Go.Proofs.Ytllohgmahflpaaa.Rows.QueueNobodySaid :=
  OpenClaim.holds_of_wide (p := Go.Proofs.Ytllohgmahflpaaa.Try.pinned) (s := Go.Proofs.Ytllohgmahflpaaa.Rows.queueNobodySpec) (c := Go.Proofs.Ytllohgmahflpaaa.Rows.queueNobodyRow) 5 Go.Proofs.Try.f5 rfl rfl rfl rfl rfl rfl rfl ⟨rfl, rfl, rfl, rfl, rfl⟩ rfl rfl rfl rfl rfl (by kernel_rfl) Go.Proofs.Try.func5 (by kernel_rfl)
    (of_decide_eq_true (by kernel_rfl)) (by unfold Func.isWrapper; first | (rw [if_pos (by decide +kernel)]; kernel_rfl) | (rw [if_neg (by decide +kernel)]; exact ⟨rfl, rfl⟩))
    (fun os started H enc _ => lift5 os started H enc)
end Go.Proofs.Ytllohgmahflpaaa.Own
