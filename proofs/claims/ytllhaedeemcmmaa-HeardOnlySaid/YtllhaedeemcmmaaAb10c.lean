/- Seat 10: the plain laws. -/
import Derived.Test.YtllhaedeemcmmaaAb10b
import Derived.Test.YtllhaedeemcmmaaAbArith
set_option maxRecDepth 100000
set_option maxHeartbeats 4000000
set_option linter.unusedVariables false
set_option linter.unusedSimpArgs false
namespace Ab10
open Go Ab

abbrev Ok0 (x : S0) : Prop := All2 KC.has (kd 0) (Cod.enc 0 x)
abbrev Ok1 (x : S1) : Prop := All2 KC.has (kd 1) (Cod.enc 1 x)

theorem awake_true : g13 = true := by kernel_rfl

theorem take_eq (x : S0) (m : S1) : g11 x m = g12 x m := by
  simp only [g11, g11T, g12, g12T, Tr.get, bne]
  cases x.f2 <;> cases h3 : (m.f0 == 3) <;> cases h1 : (m.f0 == 1) <;> cases h2 : (m.f0 == 2) <;> simp

theorem law3 (x : S0) (m : S1) : g3 x m = true := by
  simp only [g3, g3T, Tr.get, awake_true, take_eq, beq_self_eq_true, Bool.and_self, cond_true]

theorem law8 (x : S0) : g8 x = true := by
  have e1 : g22 x = g23 x := rfl
  have e2 : g24 x = g25 x := rfl
  have e3 : g26 x = g27 x := rfl
  simp only [g8, g8T, Tr.get, awake_true, e1, e2, e3, beq_self_eq_true, Bool.and_self, cond_true]

theorem law4 (x : S0) : g4 x = true := by
  simp only [g4, g4T, Tr.get, awake_true, g14, g14T]
  rw [show g15 (S1.mk x.f48 x.f49 x.f50 x.f51 x.f52 x.f53 x.f54 x.f55 x.f56 x.f57 x.f58 x.f59 x.f60 x.f61 x.f62 x.f63) = g33 (S1.mk x.f48 x.f49 x.f50 x.f51 x.f52 x.f53 x.f54 x.f55 x.f56 x.f57 x.f58 x.f59 x.f60 x.f61 x.f62 x.f63) from rfl]
  generalize g33 (S1.mk x.f48 x.f49 x.f50 x.f51 x.f52 x.f53 x.f54 x.f55 x.f56 x.f57 x.f58 x.f59 x.f60 x.f61 x.f62 x.f63) = d
  generalize (bif ((x.f56 == x.f36) && ((x.f57 == x.f37) && ((x.f58 == x.f38) && (x.f59 == x.f39)))) then ((x.f60 == x.f44) && ((x.f61 == x.f45) && ((x.f62 == x.f46) && (x.f63 == x.f47)))) else false) = s
  generalize g34 (S2.mk x.f56 x.f57 x.f58 x.f59) (S2.mk x.f36 x.f37 x.f38 x.f39) = u
  generalize decide (g35 (S2.mk x.f56 x.f57 x.f58 x.f59) (S2.mk x.f36 x.f37 x.f38 x.f39) ≥ 0) = w
  generalize (x.f48 != 3) = a
  generalize (x.f55 == 3) = b
  generalize (x.f55 == 1) = c
  generalize (x.f55 == 2) = e
  cases d <;> cases s <;> cases u <;> cases w <;> cases a <;> cases b <;> cases c <;> cases e <;> rfl

theorem hello_eq {x : S0} (h : 0 ≤ x.f62) : g16 x = g31 x := by
  simp only [g16, g16T, g31, g31T, Tr.get, mxI]
  by_cases z : x.f62 = 0
  · simp [z]
  · simp only [beq_false_of_ne z, cond_false]
    by_cases o : (1 : Int) > x.f62
    · exfalso; omega
    · rw [if_neg o]

theorem while_eq {x : S0} (h4 : 0 ≤ x.f44 ∧ x.f44 ≤ 255) (h5 : 0 ≤ x.f45 ∧ x.f45 ≤ 255) (h6 : 0 ≤ x.f46 ∧ x.f46 ≤ 255) : g21 x = g32 x := by
  simp only [g21, g21T, g32, g32T, Tr.get, mnI]
  rw [IntWalk.i64_in x.f46 (by omega), IntWalk.i64_in x.f44 (by omega), IntWalk.i64_in x.f45 (by omega), IntWalk.i64_in (3 * x.f46) (by omega), IntWalk.i64_in (x.f44 + 1) (by omega)]
  by_cases a : x.f44 < x.f45
  · rw [decide_eq_true a, decide_eq_true (show x.f44 + 1 ≤ x.f45 by omega)]
    by_cases b : 3 * x.f46 < 255
    · rw [if_pos b, decide_eq_false (show ¬ 3 * x.f46 > 255 by omega)]; rfl
    · rw [if_neg b]
      by_cases c : 3 * x.f46 > 255
      · rw [decide_eq_true c]; rfl
      · rw [decide_eq_false c, show 3 * x.f46 = 255 by omega]; rfl
  · rw [decide_eq_false a, decide_eq_false (show ¬ x.f44 + 1 ≤ x.f45 by omega)]; rfl

theorem law9 {x : S0} (h : Ok0 x) : g9 x = true := by
  have e1 : g28 x = g29 x := rfl
  have e2 : g17 x = g30 x := rfl
  have e3 := hello_eq (x := x) (rg_u8 (fld h 62 rfl rfl)).1
  have e4 := while_eq (x := x) (rg_u8 (fld h 44 rfl rfl)) (rg_u8 (fld h 45 rfl rfl)) (rg_u8 (fld h 46 rfl rfl))
  simp only [g9, g9T, Tr.get, awake_true, e1, e2, e3, e4, beq_self_eq_true, Bool.and_self, cond_true]

theorem law7 {x : S0} (h : Ok0 x) : g7 x = true := by
  have h0 := rg_u8 (fld h 60 rfl rfl)
  have h1 := rg_u8 (fld h 61 rfl rfl)
  have h2 := rg_u8 (fld h 62 rfl rfl)
  simp only [g7, g7T, Tr.get, awake_true, g16, g16T, g21, g21T]
  rw [IntWalk.i64_in x.f60 (by omega), IntWalk.i64_in x.f61 (by omega)]
  have hm : 1 ≤ mxI x.f62 1 ∧ mxI x.f62 1 ≤ 255 := by unfold mxI; split <;> omega
  rw [IntWalk.i64_in (mxI x.f62 1) (by omega), IntWalk.i64_in (3 * mxI x.f62 1) (by omega)]
  have hn : 1 ≤ mnI 255 (3 * mxI x.f62 1) ∧ mnI 255 (3 * mxI x.f62 1) ≤ 255 := by unfold mnI; split <;> omega
  rw [IntWalk.u8_in _ (by omega)]
  by_cases a : x.f60 < x.f61
  · simp only [decide_eq_true a, cond_true]
    have : (mnI 255 (3 * mxI x.f62 1) != 0) = true := bne_iff_ne.mpr (by omega)
    simp [this]
  · simp only [decide_eq_false a, cond_false]
    simp

theorem law5 {x : S0} {m : S1} (h : Ok1 m) : g5 x m = true := by
  have hh := rg_u8 (fld h 14 rfl rfl)
  have h14 : ∀ n : Int, 1 ≤ n → mxI n 1 = n := fun n hn => by unfold mxI; rw [if_neg (by omega)]
  simp only [g5, g5T, Tr.get, awake_true]
  cases z : (m.f14 == 0)
  · have z' : ¬ m.f14 = 0 := by simpa using z
    simp [g11, g11T, g14, g14T, g16, g16T, g17, g17T, g33, g33T, Tr.get, h14 m.f14 (by omega)]
  · simp [g11, g11T, g14, g14T, g16, g16T, g17, g17T, g33, g33T, Tr.get, h14 2 (by omega)]


def Vok (v : S2) : Prop := (0 ≤ v.f0 ∧ v.f0 ≤ 18446744073709551615) ∧ (0 ≤ v.f1 ∧ v.f1 ≤ 4294967295) ∧ (0 ≤ v.f2 ∧ v.f2 ≤ 18446744073709551615) ∧ (0 ≤ v.f3 ∧ v.f3 ≤ 65535)

theorem g37_eq (v u : S2) : g37 v u = decide (v.f0 < u.f0 ∨ (v.f0 = u.f0 ∧ (v.f1 < u.f1 ∨ (v.f1 = u.f1 ∧ (v.f2 < u.f2 ∨ (v.f2 = u.f2 ∧ v.f3 < u.f3)))))) := by
  simp only [g37, g37T, Tr.get, bne, Bool.cond_eq_ite, Bool.not_eq_true', beq_eq_false_iff_ne, ne_eq]
  repeat' split
  all_goals (rw [decide_eq_decide]; omega)

theorem g35_eq {v u : S2} (h : Vok v) (k : Vok u) : g35 v u =
    if v.f0 < u.f0 then -1 else if v.f0 > u.f0 then 1 else if v.f1 < u.f1 then -1 else if v.f1 > u.f1 then 1 else if v.f2 < u.f2 then -1 else if v.f2 > u.f2 then 1 else if v.f3 < u.f3 then -1 else if v.f3 > u.f3 then 1 else 0 := by
  obtain ⟨_, h1, _, h3⟩ := h
  obtain ⟨_, k1, _, k3⟩ := k
  simp only [g35, g35T, Tr.get, IntWalk.u64_in v.f1 (by omega), IntWalk.u64_in u.f1 (by omega), IntWalk.u64_in v.f3 (by omega), IntWalk.u64_in u.f3 (by omega), Bool.cond_decide]

theorem g38_eq {v u : S2} (h : Vok v) (k : Vok u) : g38 v u = g37 v u := by
  rw [g37_eq]
  simp only [g38, g38T, Tr.get, g35_eq h k]
  rw [decide_eq_decide]
  repeat' split
  all_goals omega

theorem cmp_ge {v u : S2} (h : Vok v) (k : Vok u) : decide (g35 v u ≥ 0) = !g37 v u := by
  have := g38_eq h k
  simp only [g38, g38T, Tr.get] at this
  rw [← this]
  by_cases a : g35 v u < 0
  · rw [decide_eq_true a, decide_eq_false (by omega)]; rfl
  · rw [decide_eq_false a, decide_eq_true (by omega)]; rfl

theorem number_eq {x : Int} (h : 0 ≤ x ∧ x ≤ 65535) : g46 x = g48 x := by
  simp only [g46, g46T, g48, g48T, Tr.get]
  rw [andI_u16_12 h, remI_eq _ h.1]

theorem superior_eq {v u : S2} (h : Vok v) (k : Vok u) : g34 v u = g36 v u := by
  simp only [g34, g34T, g36, g36T, Tr.get, g47, g47T]
  rw [g38_eq h k, number_eq h.2.2.2, number_eq k.2.2.2, andI_u64_48 h.2.2.1, andI_u64_48 k.2.2.1, remI_eq _ h.2.2.1.1, remI_eq _ k.2.2.1.1]

theorem law6 {x : S0} {i : Int} (h : Ok0 x) : g6 x i = true := by
  have hm : Vok (S2.mk x.f56 x.f57 x.f58 x.f59) := ⟨rg_u64 (fld h 56 rfl rfl), rg_u32 (fld h 57 rfl rfl), rg_u64 (fld h 58 rfl rfl), rg_u16 (fld h 59 rfl rfl)⟩
  have hp : Vok (S2.mk x.f36 x.f37 x.f38 x.f39) := ⟨rg_u64 (fld h 36 rfl rfl), rg_u32 (fld h 37 rfl rfl), rg_u64 (fld h 38 rfl rfl), rg_u16 (fld h 39 rfl rfl)⟩
  have hd : Vok (S2.mk x.f32 x.f33 x.f34 x.f35) := ⟨rg_u64 (fld h 32 rfl rfl), rg_u32 (fld h 33 rfl rfl), rg_u64 (fld h 34 rfl rfl), rg_u16 (fld h 35 rfl rfl)⟩
  have e1 : g14 x = g18 x := by
    simp only [g14, g14T, g18, g18T, Tr.get]
    rw [show g15 (S1.mk x.f48 x.f49 x.f50 x.f51 x.f52 x.f53 x.f54 x.f55 x.f56 x.f57 x.f58 x.f59 x.f60 x.f61 x.f62 x.f63) = g33 (S1.mk x.f48 x.f49 x.f50 x.f51 x.f52 x.f53 x.f54 x.f55 x.f56 x.f57 x.f58 x.f59 x.f60 x.f61 x.f62 x.f63) from rfl, superior_eq hm hp, cmp_ge hm hp]
    generalize g33 (S1.mk x.f48 x.f49 x.f50 x.f51 x.f52 x.f53 x.f54 x.f55 x.f56 x.f57 x.f58 x.f59 x.f60 x.f61 x.f62 x.f63) = d
    generalize (bif ((x.f56 == x.f36) && ((x.f57 == x.f37) && ((x.f58 == x.f38) && (x.f59 == x.f39)))) then ((x.f60 == x.f44) && ((x.f61 == x.f45) && ((x.f62 == x.f46) && (x.f63 == x.f47)))) else false) = s
    generalize g36 (S2.mk x.f56 x.f57 x.f58 x.f59) (S2.mk x.f36 x.f37 x.f38 x.f39) = u
    generalize g37 (S2.mk x.f56 x.f57 x.f58 x.f59) (S2.mk x.f36 x.f37 x.f38 x.f39) = w
    rw [show (x.f48 != 3) = !(x.f48 == 3) from rfl]
    generalize (x.f48 == 3) = a
    generalize (x.f55 == 3) = b
    generalize (x.f55 == 1) = c
    generalize (x.f55 == 2) = e
    cases d <;> cases s <;> cases u <;> cases w <;> cases a <;> cases b <;> cases c <;> cases e <;> rfl
  have e2 : g19 x i = g20 x i := by
    simp only [g19, g19T, g20, g20T, Tr.get]
    rw [g38_eq hp hm, g38_eq hp hd]
    generalize g37 (S2.mk x.f36 x.f37 x.f38 x.f39) (S2.mk x.f56 x.f57 x.f58 x.f59) = u
    generalize g37 (S2.mk x.f36 x.f37 x.f38 x.f39) (S2.mk x.f32 x.f33 x.f34 x.f35) = w
    by_cases a : i = 3
    · subst a
      by_cases b : x.f29 = 3
      · simp [b]
      · have b' := beq_false_of_ne b
        simp [bne, b']
    · by_cases c : i = 2
      · subst c
        by_cases b : x.f29 = 2
        · simp [b]
        · have b' := beq_false_of_ne b
          simp [bne, b']
      · have a' := beq_false_of_ne a
        have c' := beq_false_of_ne c
        simp [bne, a', c']
  simp only [g6, g6T, Tr.get, awake_true, e1, e2, beq_self_eq_true, Bool.and_self, cond_true]

theorem take_same (x : S0) (m : S1) : ∃ a b c d0 d1 d2 d3 d4 d5 d6 d7 d8 d9 d10 d11 d12 d13 d14 d15, g11 x m = { x with f14 := a, f15 := b, f16 := c, f48 := d0, f49 := d1, f50 := d2, f51 := d3, f52 := d4, f53 := d5, f54 := d6, f55 := d7, f56 := d8, f57 := d9, f58 := d10, f59 := d11, f60 := d12, f61 := d13, f62 := d14, f63 := d15 } := by
  simp only [g11, g11T, Tr.get]
  generalize (!x.f2) = t0
  generalize (m.f0 == 3) = t1
  generalize (m.f0 == 1) = t2
  generalize (m.f0 == 2) = t3
  cases t0 <;> cases t1 <;> cases t2 <;> cases t3 <;> exact ⟨_, _, _, _, _, _, _, _, _, _, _, _, _, _, _, _, _, _, _, rfl⟩

theorem while_same (x : S0) : ∃ a, g21 x = { x with f69 := a } := by
  simp only [g21, g21T, Tr.get]
  cases decide (x.f44 < x.f45) <;> exact ⟨_, rfl⟩

theorem prop_same (x : S0) : ∃ a, g22 x = { x with f12 := a } := by
  simp only [g22, g22T, Tr.get]
  cases (bif (bif (x.f48 == 3) then (x.f55 == 4) else false) then x.f51 else false) <;> exact ⟨_, rfl⟩

theorem agree_same (x : S0) : ∃ a b, g24 x = { x with f4 := a, f13 := b } := by
  simp only [g24, g24T, Tr.get]
  cases (bif (x.f48 == 3) then x.f54 else false) <;> exact ⟨_, _, rfl⟩

theorem disp_same (x : S0) : ∃ a b, g26 x = { x with f4 := a, f5 := b } := by
  simp only [g26, g26T, Tr.get]
  cases (bif (x.f48 == 3) then x.f52 else false) <;> exact ⟨_, _, rfl⟩

theorem flag_same (x : S0) : ∃ a b c, g28 x = { x with f17 := a, f18 := b, f19 := c } := by
  simp only [g28, g28T, Tr.get]
  cases (bif x.f49 then (bif (x.f48 == 3) then true else (x.f48 == 1)) else false) <;> cases (bif x.f50 then (x.f48 == 1) else false) <;> cases (x.f48 == 2) <;> exact ⟨_, _, _, rfl⟩

theorem three_same (x : S0) : ∃ a b c d, g26 (g24 (g22 x)) = { x with f4 := a, f5 := b, f12 := c, f13 := d } := by
  obtain ⟨p, h3⟩ := prop_same x
  rw [h3]
  obtain ⟨q, r, h4⟩ := agree_same { x with f12 := p }
  rw [h4]
  obtain ⟨s, t, h5⟩ := disp_same { x with f12 := p, f4 := q, f13 := r }
  rw [h5]
  exact ⟨_, _, _, _, rfl⟩

theorem times_same (x : S0) : ∃ a b c d e f g h i, g21 (g16 (g17 x)) = { x with f36 := a, f37 := b, f38 := c, f39 := d, f44 := e, f45 := f, f46 := g, f47 := h, f69 := i } := by
  obtain ⟨w, h2⟩ := while_same (g16 (g17 x))
  rw [h2]
  exact ⟨_, _, _, _, _, _, _, _, _, rfl⟩

theorem law10 (x : S0) (m : S1) : g10 x m = true := by
  obtain ⟨a, b, c, d0, d1, d2, d3, d4, d5, d6, d7, d8, d9, d10, d11, d12, d13, d14, d15, h1⟩ := take_same x m
  obtain ⟨e0, e1, e2, e3, e4, e5, e6, e7, e8, h2⟩ := times_same x
  obtain ⟨p, q, r, s, h3⟩ := three_same x
  obtain ⟨u, v, y, h6⟩ := flag_same x
  simp only [g10, g10T, Tr.get, awake_true, h1, h2, h3, h6, beq_self_eq_true, Bool.and_self, cond_true]

end Ab10
