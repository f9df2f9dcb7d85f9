/- Seat 10: the plain laws. -/
import Derived.Test.YtllhaedeemcmmaaAb10b
import Derived.Test.YtllhaedeemcmmaaAbArith
set_option maxRecDepth 100000
set_option maxHeartbeats 4000000
set_option linter.unusedVariables false
set_option linter.unusedSimpArgs false
namespace Ab10
open Go Ab

abbrev Ok0 (x : S0) : Prop := All2 KC.has (kd 0) (Cod.enc 0 x)
abbrev Ok1 (x : S1) : Prop := All2 KC.has (kd 1) (Cod.enc 1 x)

theorem awake_true : g13 = true := by kernel_rfl

theorem take_eq (x : S0) (m : S1) : g11 x m = g12 x m := by
  simp only [g11, g11T, g12, g12T, Tr.get, bne]
  cases x.f2 <;> cases h3 : (m.f0 == 3) <;> cases h1 : (m.f0 == 1) <;> cases h2 : (m.f0 == 2) <;> simp

theorem law3 (x : S0) (m : S1) : g3 x m = true := by
  simp only [g3, g3T, Tr.get, awake_true, take_eq, beq_self_eq_true, Bool.and_self, cond_true]

theorem law8 (x : S0) : g8 x = true := by
  have e1 : g22 x = g23 x := rfl
  have e2 : g24 x = g25 x := rfl
  have e3 : g26 x = g27 x := rfl
  simp only [g8, g8T, Tr.get, awake_true, e1, e2, e3, beq_self_eq_true, Bool.and_self, cond_true]

theorem law4 (x : S0) : g4 x = true := by
  simp only [g4, g4T, Tr.get, awake_true, g14, g14T]
  rw [show g15 (S1.mk x.f48 x.f49 x.f50 x.f51 x.f52 x.f53 x.f54 x.f55 x.f56 x.f57 x.f58 x.f59 x.f60 x.f61 x.f62 x.f63) = g33 (S1.mk x.f48 x.f49 x.f50 x.f51 x.f52 x.f53 x.f54 x.f55 x.f56 x.f57 x.f58 x.f59 x.f60 x.f61 x.f62 x.f63) from rfl]
  generalize g33 (S1.mk x.f48 x.f49 x.f50 x.f51 x.f52 x.f53 x.f54 x.f55 x.f56 x.f57 x.f58 x.f59 x.f60 x.f61 x.f62 x.f63) = d
  generalize (bif ((x.f56 == x.f36) && ((x.f57 == x.f37) && ((x.f58 == x.f38) && (x.f59 == x.f39)))) then ((x.f60 == x.f44) && ((x.f61 == x.f45) && ((x.f62 == x.f46) && (x.f63 == x.f47)))) else false) = s
  generalize g34 (S2.mk x.f56 x.f57 x.f58 x.f59) (S2.mk x.f36 x.f37 x.f38 x.f39) = u
  generalize decide (g35 (S2.mk x.f56 x.f57 x.f58 x.f59) (S2.mk x.f36 x.f37 x.f38 x.f39) ≥ 0) = w
  generalize (x.f48 != 3) = a
  generalize (x.f55 == 3) = b
  generalize (x.f55 == 1) = c
  generalize (x.f55 == 2) = e
  cases d <;> cases s <;> cases u <;> cases w <;> cases a <;> cases b <;> cases c <;> cases e <;> rfl

theorem hello_eq {x : S0} (h : 0 ≤ x.f62) : g16 x = g31 x := by
  simp only [g16, g16T, g31, g31T, Tr.get, mxI]
  by_cases z : x.f62 = 0
  · simp [z]
  · simp only [beq_false_of_ne z, cond_false]
    by_cases o : (1 : Int) > x.f62
    · exfalso; omega
    · rw [if_neg o]

theorem while_eq {x : S0} (h4 : 0 ≤ x.f44 ∧ x.f44 ≤ 255) (h5 : 0 ≤ x.f45 ∧ x.f45 ≤ 255) (h6 : 0 ≤ x.f46 ∧ x.f46 ≤ 255) : g21 x = g32 x := by
  simp only [g21, g21T, g32, g32T, Tr.get, mnI]
  rw [IntWalk.i64_in x.f46 (by omega), IntWalk.i64_in x.f44 (by omega), IntWalk.i64_in x.f45 (by omega), IntWalk.i64_in (3 * x.f46) (by omega), IntWalk.i64_in (x.f44 + 1) (by omega)]
  by_cases a : x.f44 < x.f45
  · rw [decide_eq_true a, decide_eq_true (show x.f44 + 1 ≤ x.f45 by omega)]
    by_cases b : 3 * x.f46 < 255
    · rw [if_pos b, decide_eq_false (show ¬ 3 * x.f46 > 255 by omega)]; rfl
    · rw [if_neg b]
      by_cases c : 3 * x.f46 > 255
      · rw [decide_eq_true c]; rfl
      · rw [decide_eq_false c, show 3 * x.f46 = 255 by omega]; rfl
  · rw [decide_eq_false a, decide_eq_false (show ¬ x.f44 + 1 ≤ x.f45 by omega)]; rfl

theorem law9 {x : S0} (h : Ok0 x) : g9 x = true := by
  have e1 : g28 x = g29 x := rfl
  have e2 : g17 x = g30 x := rfl
  have e3 := hello_eq (x := x) (rg_u8 (fld h 62 rfl rfl)).1
  have e4 := while_eq (x := x) (rg_u8 (fld h 44 rfl rfl)) (rg_u8 (fld h 45 rfl rfl)) (rg_u8 (fld h 46 rfl rfl))
  simp only [g9, g9T, Tr.get, awake_true, e1, e2, e3, e4, beq_self_eq_true, Bool.and_self, cond_true]

theorem law7 {x : S0} (h : Ok0 x) : g7 x = true := by
  have h0 := rg_u8 (fld h 60 rfl rfl)
  have h1 := rg_u8 (fld h 61 rfl rfl)
  have h2 := rg_u8 (fld h 62 rfl rfl)
  simp only [g7, g7T, Tr.get, awake_true, g16, g16T, g21, g21T]
  rw [IntWalk.i64_in x.f60 (by omega), IntWalk.i64_in x.f61 (by omega)]
  have hm : 1 ≤ mxI x.f62 1 ∧ mxI x.f62 1 ≤ 255 := by unfold mxI; split <;> omega
  rw [IntWalk.i64_in (mxI x.f62 1) (by omega), IntWalk.i64_in (3 * mxI x.f62 1) (by omega)]
  have hn : 1 ≤ mnI 255 (3 * mxI x.f62 1) ∧ mnI 255 (3 * mxI x.f62 1) ≤ 255 := by unfold mnI; split <;> omega
  rw [IntWalk.u8_in _ (by omega)]
  by_cases a : x.f60 < x.f61
  · simp only [decide_eq_true a, cond_true]
    have : (mnI 255 (3 * mxI x.f62 1) != 0) = true := bne_iff_ne.mpr (by omega)
    simp [this]
  · simp only [decide_eq_false a, cond_false]
    simp

theorem law5 {x : S0} {m : S1} (h : Ok1 m) : g5 x m = true := by
  have hh := rg_u8 (fld h 14 rfl rfl)
  have h14 : ∀ n : Int, 1 ≤ n → mxI n 1 = n := fun n hn => by unfold mxI; rw [if_neg (by omega)]
  simp only [g5, g5T, Tr.get, awake_true]
  cases z : (m.f14 == 0)
  · have z' : ¬ m.f14 = 0 := by simpa using z
    simp [g11, g11T, g14, g14T, g16, g16T, g17, g17T, g33, g33T, Tr.get, h14 m.f14 (by omega)]
  · simp [g11, g11T, g14, g14T, g16, g16T, g17, g17T, g33, g33T, Tr.get, h14 2 (by omega)]

end Ab10
