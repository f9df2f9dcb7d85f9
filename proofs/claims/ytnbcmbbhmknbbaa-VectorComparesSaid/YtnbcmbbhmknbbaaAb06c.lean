/- Seat 06: the plain laws. -/
import Derived.Test.YtnbcmbbhmknbbaaAb06b
import Derived.Test.YtnbcmbbhmknbbaaAbArith
set_option maxRecDepth 100000
set_option maxHeartbeats 4000000
set_option linter.unusedVariables false
set_option linter.unusedSimpArgs false
namespace Ab06
open Go Ab

def Vok (a b c d : Int) : Prop := (0 ≤ a ∧ a ≤ 18446744073709551615) ∧ (0 ≤ b ∧ b ≤ 4294967295) ∧ (0 ≤ c ∧ c ≤ 18446744073709551615) ∧ (0 ≤ d ∧ d ≤ 65535)

theorem awake_true : g16 = true := by kernel_rfl

theorem g13_eq (x0 x1 x2 x3 x4 x5 x6 x7 : Int) : g13 x0 x1 x2 x3 x4 x5 x6 x7 = decide (x0 < x4 ∨ (x0 = x4 ∧ (x1 < x5 ∨ (x1 = x5 ∧ (x2 < x6 ∨ (x2 = x6 ∧ x3 < x7)))))) := by
  simp only [g13, g13T, Tr.get, bne, Bool.cond_eq_ite, Bool.not_eq_true', beq_eq_false_iff_ne, ne_eq]
  repeat' split
  all_goals (rw [decide_eq_decide]; omega)

theorem g10_eq {x0 x1 x2 x3 x4 x5 x6 x7 : Int} (h : Vok x0 x1 x2 x3) (k : Vok x4 x5 x6 x7) : g10 x0 x1 x2 x3 x4 x5 x6 x7 =
    if x0 < x4 then -1 else if x0 > x4 then 1 else if x1 < x5 then -1 else if x1 > x5 then 1 else if x2 < x6 then -1 else if x2 > x6 then 1 else if x3 < x7 then -1 else if x3 > x7 then 1 else 0 := by
  obtain ⟨_, h1, _, h3⟩ := h
  obtain ⟨_, k1, _, k3⟩ := k
  simp only [g10, g10T, Tr.get, IntWalk.u64_in x1 (by omega), IntWalk.u64_in x5 (by omega), IntWalk.u64_in x3 (by omega), IntWalk.u64_in x7 (by omega), Bool.cond_decide]

theorem g12_eq {x0 x1 x2 x3 x4 x5 x6 x7 : Int} (h : Vok x0 x1 x2 x3) (k : Vok x4 x5 x6 x7) : g12 x0 x1 x2 x3 x4 x5 x6 x7 = decide (x0 < x4 ∨ (x0 = x4 ∧ (x1 < x5 ∨ (x1 = x5 ∧ (x2 < x6 ∨ (x2 = x6 ∧ x3 < x7)))))) := by
  simp only [g12, g12T, Tr.get, g10_eq h k]
  rw [decide_eq_decide]
  repeat' split
  all_goals omega

theorem g11_eq {x0 x1 x2 x3 x4 x5 x6 x7 : Int} (h : Vok x0 x1 x2 x3) (k : Vok x4 x5 x6 x7) : g10 x0 x1 x2 x3 x4 x5 x6 x7 = g11 x0 x1 x2 x3 x4 x5 x6 x7 := by
  simp only [g11, g11T, Tr.get, g10_eq h k, g13_eq, Bool.cond_decide]
  repeat' split
  all_goals first | rfl | omega

theorem number_eq {x : Int} (h : 0 ≤ x ∧ x ≤ 65535) : g33 x = g34 x := by
  simp only [g33, g33T, g34, g34T, Tr.get]
  rw [andI_u16_12 h, remI_eq _ h.1]

theorem superior_eq {x0 x1 x2 x3 x4 x5 x6 x7 : Int} (h : Vok x0 x1 x2 x3) (k : Vok x4 x5 x6 x7) : g14 x0 x1 x2 x3 x4 x5 x6 x7 = g15 x0 x1 x2 x3 x4 x5 x6 x7 := by
  simp only [g14, g14T, g15, g15T, Tr.get, g35, g35T]
  rw [g12_eq h k, g13_eq, number_eq h.2.2.2, number_eq k.2.2.2, andI_u64_48 h.2.2.1, andI_u64_48 k.2.2.1, remI_eq _ h.2.2.1.1, remI_eq _ k.2.2.1.1]

theorem law3 {x0 x1 x2 x3 x4 x5 x6 x7 : Int} (h : Vok x0 x1 x2 x3) (k : Vok x4 x5 x6 x7) : g3 x0 x1 x2 x3 x4 x5 x6 x7 = true := by
  simp only [g3, g3T, Tr.get, awake_true]
  rw [g11_eq h k, g12_eq h k, g13_eq, superior_eq h k]
  simp

theorem law4 {x0 x1 x2 x3 x4 x5 x6 x7 x8 x9 x10 x11 : Int} (h : Vok x0 x1 x2 x3) (k : Vok x4 x5 x6 x7) (l : Vok x8 x9 x10 x11) : g4 x0 x1 x2 x3 x4 x5 x6 x7 x8 x9 x10 x11 = true := by
  simp only [g4, g4T, Tr.get, awake_true]
  rw [g12_eq h k, g12_eq k h, g12_eq k l, g12_eq h l, g10_eq h k, g10_eq k h]
  have hc : (bif (bif (bif decide (x0 < x4 ∨ (x0 = x4 ∧ (x1 < x5 ∨ (x1 = x5 ∧ (x2 < x6 ∨ (x2 = x6 ∧ x3 < x7)))))) then decide (x4 < x0 ∨ (x4 = x0 ∧ (x5 < x1 ∨ (x5 = x1 ∧ (x6 < x2 ∨ (x6 = x2 ∧ x7 < x3)))))) else false) then true else
      (!((bif decide (x0 < x4 ∨ (x0 = x4 ∧ (x1 < x5 ∨ (x1 = x5 ∧ (x2 < x6 ∨ (x2 = x6 ∧ x3 < x7)))))) then true else decide (x4 < x0 ∨ (x4 = x0 ∧ (x5 < x1 ∨ (x5 = x1 ∧ (x6 < x2 ∨ (x6 = x2 ∧ x7 < x3))))))) == (!((x0 == x4) && ((x1 == x5) && ((x2 == x6) && (x3 == x7)))))))) then true else
      ((if x0 < x4 then -1 else if x0 > x4 then 1 else if x1 < x5 then -1 else if x1 > x5 then 1 else if x2 < x6 then -1 else if x2 > x6 then 1 else if x3 < x7 then -1 else if x3 > x7 then 1 else 0 : Int) !=
        IntKind.i64.wrap (0 - (if x4 < x0 then -1 else if x4 > x0 then 1 else if x5 < x1 then -1 else if x5 > x1 then 1 else if x6 < x2 then -1 else if x6 > x2 then 1 else if x7 < x3 then -1 else if x7 > x3 then 1 else 0)))) = false := by
    rcases Int.lt_trichotomy x0 x4 with a | a | a
    · simp [a, show ¬ x4 < x0 by omega, show ¬ x4 = x0 by omega, show ¬ x0 = x4 by omega]; rfl
    · subst a
      rcases Int.lt_trichotomy x1 x5 with b | b | b
      · simp [b, show ¬ x5 < x1 by omega, show ¬ x5 = x1 by omega, show ¬ x1 = x5 by omega]; rfl
      · subst b
        rcases Int.lt_trichotomy x2 x6 with c | c | c
        · simp [c, show ¬ x6 < x2 by omega, show ¬ x6 = x2 by omega, show ¬ x2 = x6 by omega]; rfl
        · subst c
          rcases Int.lt_trichotomy x3 x7 with d | d | d
          · simp [d, show ¬ x7 < x3 by omega, show ¬ x7 = x3 by omega, show ¬ x3 = x7 by omega]; rfl
          · subst d
            simp; rfl
          · simp [d, show ¬ x3 < x7 by omega, show ¬ x7 = x3 by omega, show ¬ x3 = x7 by omega]; rfl
        · simp [c, show ¬ x2 < x6 by omega, show ¬ x6 = x2 by omega, show ¬ x2 = x6 by omega]; rfl
      · simp [b, show ¬ x1 < x5 by omega, show ¬ x5 = x1 by omega, show ¬ x1 = x5 by omega]; rfl
    · simp [a, show ¬ x0 < x4 by omega, show ¬ x4 = x0 by omega, show ¬ x0 = x4 by omega]; rfl
  rw [hc]
  simp only [cond_false]
  by_cases p : (x0 < x4 ∨ (x0 = x4 ∧ (x1 < x5 ∨ (x1 = x5 ∧ (x2 < x6 ∨ (x2 = x6 ∧ x3 < x7))))))
  · by_cases q : (x4 < x8 ∨ (x4 = x8 ∧ (x5 < x9 ∨ (x5 = x9 ∧ (x6 < x10 ∨ (x6 = x10 ∧ x7 < x11))))))
    · have r : (x0 < x8 ∨ (x0 = x8 ∧ (x1 < x9 ∨ (x1 = x9 ∧ (x2 < x10 ∨ (x2 = x10 ∧ x3 < x11)))))) := by omega
      rw [decide_eq_true p, decide_eq_true q, decide_eq_true r]; rfl
    · rw [decide_eq_true p, decide_eq_false q]; simp
  · rw [decide_eq_false p]; simp

theorem law5 {x0 x1 x2 x3 x4 x5 x6 x7 x8 : Int} (h : Vok x0 x1 x2 x3) (k : Vok x4 x5 x6 x7) (l : 0 ≤ x8 ∧ x8 ≤ 4294967295) : g5 x0 x1 x2 x3 x4 x5 x6 x7 x8 = true := by
  have e := wr_u32 (x1 + x8)
  have hv : ∀ c d, (0 ≤ c ∧ c ≤ 18446744073709551615) → (0 ≤ d ∧ d ≤ 65535) → Vok x0 (IntKind.u32.wrap (x1 + x8)) c d := fun c d hc hd => ⟨h.1, by omega, hc, hd⟩
  have hv' : ∀ c d, (0 ≤ c ∧ c ≤ 18446744073709551615) → (0 ≤ d ∧ d ≤ 65535) → Vok x0 x1 c d := fun c d hc hd => ⟨h.1, h.2.1, hc, hd⟩
  simp only [g5, g5T, g17, g17T, Tr.get, awake_true]
  rw [g12_eq (hv _ _ h.2.2.1 h.2.2.2) (hv _ _ k.2.2.1 k.2.2.2), g12_eq (hv' _ _ h.2.2.1 h.2.2.2) (hv' _ _ k.2.2.1 k.2.2.2)]
  simp

def B8 (n : Int) : Prop := 0 ≤ n ∧ n ≤ 255

theorem law7 {x0 x1 x2 x3 : Int} (h0 : B8 x0) (h1 : B8 x1) (h2 : B8 x2) (h3 : B8 x3) : g7 x0 x1 x2 x3 = true := by
  have e1 : g23 x0 x1 x2 x3 = g24 x0 x1 x2 x3 := by
    simp only [B8] at *
    simp only [g23, g23T, g24, g24T, g36, g36T, Tr.get]
    simp only [wr_u8, IntWalk.i64_in x1 (by omega), IntWalk.i64_in x2 (by omega), IntWalk.i64_in x3 (by omega), IntWalk.i64_in (x3 - 1) (by omega), IntWalk.i64_in (x2 + 1) (by omega), IntWalk.i64_in (2 * (x3 - 1)) (by omega), IntWalk.i64_in (2 * (x2 + 1)) (by omega)]
    simp only [Bool.cond_eq_ite, Bool.not_eq_true', decide_eq_true_eq]
    by_cases a : 6 ≤ x1 ∧ x1 ≤ 40 ∧ 1 ≤ x2 ∧ x2 ≤ 2 ∧ 4 ≤ x3 ∧ x3 ≤ 30
    · obtain ⟨a1, a2, a3, a4, a5, a6⟩ := a
      have e1 : (2 * ((x3 - 1) % 256)) % 256 = 2 * (x3 - 1) := by omega
      have e2 : (2 * ((x2 + 1) % 256)) % 256 = 2 * (x2 + 1) := by omega
      simp [e1, e2, a1, a2, a3, a4, a5, a6, show ¬ x1 < 6 by omega, show ¬ 40 < x1 by omega, show ¬ x2 < 1 by omega, show ¬ 2 < x2 by omega, show ¬ x3 < 4 by omega, show ¬ 30 < x3 by omega]
    · have : ¬ (6 ≤ x1) ∨ ¬ (x1 ≤ 40) ∨ ¬ (1 ≤ x2) ∨ ¬ (x2 ≤ 2) ∨ ¬ (4 ≤ x3) ∨ ¬ (x3 ≤ 30) := by omega
      rcases this with b | b | b | b | b | b <;> simp [b, Int.not_le.mp b] <;> simp_all
  have e2 : g25 x0 x1 x2 x3 = g26 x0 x1 x2 x3 := rfl
  simp only [g7, g7T, Tr.get, awake_true]
  rw [e1, e2]
  simp

end Ab06
