/- Seat 11: the plain laws, first part: one port. -/
import Derived.Test.YtpmemjjfabfleaaAb11b
import Derived.Test.YtpmemjjfabfleaaAbList
import Derived.Test.YtpmemjjfabfleaaAbArith
import Derived.Test.YtpmemjjfabfleaaAbFld
set_option maxRecDepth 100000
set_option maxHeartbeats 1000000
set_option linter.unusedVariables false
set_option linter.unusedSimpArgs false
namespace Ab11
open Go Ab

theorem awake_true : g13 = some true := by kernel_rfl
theorem eqS0_self (p : S0) : eqS0 p p = true := by simp only [eqS0, beq_self_eq_true, Bool.and_self]
theorem eqS5_self (p : S5) : eqS5 p p = true := by simp only [eqS5, beq_self_eq_true, Bool.and_self]
theorem eqS6_self (p : S6) : eqS6 p p = true := by simp only [eqS6, beq_self_eq_true, Bool.and_self]

def Vok (v : S6) : Prop := (0 ≤ v.f0 ∧ v.f0 ≤ 18446744073709551615) ∧ (0 ≤ v.f1 ∧ v.f1 ≤ 4294967295) ∧ (0 ≤ v.f2 ∧ v.f2 ≤ 18446744073709551615) ∧ (0 ≤ v.f3 ∧ v.f3 ≤ 65535)
def B8 (n : Int) : Prop := 0 ≤ n ∧ n ≤ 255
/-- What of a port the laws ask: the vectors, the message's times, the port's times; three flags. -/
structure K where
  m : S6
  p : S6
  d : S6
  a : Int
  b : Int
  c : Int
  s : Int
  t : Int
  u : Int
  f2 : Bool
  f28 : Bool
  f72 : Int
  f29 : Int
def kof (x : S0) : K := ⟨S6.mk x.f56 x.f57 x.f58 x.f59, S6.mk x.f36 x.f37 x.f38 x.f39, S6.mk x.f32 x.f33 x.f34 x.f35, x.f60, x.f61, x.f62, x.f44, x.f45, x.f46, x.f2, x.f28, x.f72, x.f29⟩
structure Pok (x : S0) : Prop where
  m : Vok (kof x).m
  p : Vok (kof x).p
  d : Vok (kof x).d
  a : B8 x.f60
  b : B8 x.f61
  c : B8 x.f62
  s : B8 x.f44
  t : B8 x.f45
  u : B8 x.f46
  r : B8 x.f69
theorem pok_of {x : S0} (h : All2 KC.has (kd 0) (Cod.enc 0 x)) : Pok x where
  m := ⟨rg_u64 (fld h 56 rfl rfl), rg_u32 (fld h 57 rfl rfl), rg_u64 (fld h 58 rfl rfl), rg_u16 (fld h 59 rfl rfl)⟩
  p := ⟨rg_u64 (fld h 36 rfl rfl), rg_u32 (fld h 37 rfl rfl), rg_u64 (fld h 38 rfl rfl), rg_u16 (fld h 39 rfl rfl)⟩
  d := ⟨rg_u64 (fld h 32 rfl rfl), rg_u32 (fld h 33 rfl rfl), rg_u64 (fld h 34 rfl rfl), rg_u16 (fld h 35 rfl rfl)⟩
  a := rg_u8 (fld h 60 rfl rfl)
  b := rg_u8 (fld h 61 rfl rfl)
  c := rg_u8 (fld h 62 rfl rfl)
  s := rg_u8 (fld h 44 rfl rfl)
  t := rg_u8 (fld h 45 rfl rfl)
  u := rg_u8 (fld h 46 rfl rfl)
  r := rg_u8 (fld h 69 rfl rfl)

theorem cond_k {α β : Type} {f : α → β} {c : Bool} {x y : α} {k : β} (hx : f x = k) (hy : f y = k) : f (bif c then x else y) = k := by cases c <;> assumption

theorem k66 (x : S0) : kof (g66 x) = kof x := by
  simp only [g66, g66T, gett_br, gett_leaf]; repeat' (first | rfl | apply cond_k)
theorem k65 (x : S0) : kof (g65 x) = kof x := by
  simp only [g65, g65T, gett_br, gett_leaf]; repeat' (first | rfl | apply cond_k)
theorem k64 (x : S0) : kof (g64 x) = kof x := by
  simp only [g64, g64T, gett_br, gett_leaf]; repeat' (first | rfl | apply cond_k)
theorem k67 (x : S0) : kof (g67 x) = kof x := by
  simp only [g67, g67T, gett_br, gett_leaf]; repeat' (first | rfl | apply cond_k)
theorem k63 (x : S0) : kof (g63 x) = kof x := by
  simp only [g63, g63T, gett_br, gett_leaf]; repeat' (first | rfl | apply cond_k)

/-! ### What was heard -/
theorem g70_eq (v u : S6) : g70 v u = decide (v.f0 < u.f0 ∨ (v.f0 = u.f0 ∧ (v.f1 < u.f1 ∨ (v.f1 = u.f1 ∧ (v.f2 < u.f2 ∨ (v.f2 = u.f2 ∧ v.f3 < u.f3)))))) := by
  simp only [g70, g70T, gett_br, gett_leaf, bne, Bool.cond_eq_ite, Bool.not_eq_true', beq_eq_false_iff_ne, ne_eq]
  repeat' split
  all_goals (rw [decide_eq_decide]; omega)
theorem g49_eq {v u : S6} (h : Vok v) (k : Vok u) : g49 v u =
    if v.f0 < u.f0 then -1 else if v.f0 > u.f0 then 1 else if v.f1 < u.f1 then -1 else if v.f1 > u.f1 then 1 else if v.f2 < u.f2 then -1 else if v.f2 > u.f2 then 1 else if v.f3 < u.f3 then -1 else if v.f3 > u.f3 then 1 else 0 := by
  obtain ⟨_, h1, _, h3⟩ := h
  obtain ⟨_, k1, _, k3⟩ := k
  simp only [g49, g49T, gett_br, gett_leaf, IntWalk.u64_in v.f1 (by omega), IntWalk.u64_in u.f1 (by omega), IntWalk.u64_in v.f3 (by omega), IntWalk.u64_in u.f3 (by omega), Bool.cond_decide]
theorem g59_eq {v u : S6} (h : Vok v) (k : Vok u) : g59 v u = g70 v u := by
  rw [g70_eq]
  simp only [g59, g59T, gett_leaf, g49_eq h k]
  rw [decide_eq_decide]
  repeat' split
  all_goals omega
theorem cmp_ge {v u : S6} (h : Vok v) (k : Vok u) : decide (g49 v u ≥ 0) = !g70 v u := by
  have := g59_eq h k
  simp only [g59, g59T, gett_leaf] at this
  rw [← this]
  by_cases a : g49 v u < 0
  · rw [decide_eq_true a, decide_eq_false (by omega)]; rfl
  · rw [decide_eq_false a, decide_eq_true (by omega)]; rfl
theorem number_eq {x : Int} (h : 0 ≤ x ∧ x ≤ 65535) : g69 x = g76 x := by
  simp only [g69, g69T, g76, g76T, gett_leaf]
  rw [andI_u16_12 h, remI_eq _ h.1]
theorem superior_eq {v u : S6} (h : Vok v) (k : Vok u) : g48 v u = g72 v u := by
  simp only [g48, g48T, g72, g72T, gett_leaf, g75, g75T]
  rw [g59_eq h k, number_eq h.2.2.2, number_eq k.2.2.2, andI_u64_48 h.2.2.1, andI_u64_48 k.2.2.1, remI_eq _ h.2.2.1.1, remI_eq _ k.2.2.1.1]

theorem info_eq {x : S0} (h : Pok x) : g33 x = g61 x := by
  simp only [g33, g33T, g61, g61T, gett_br, gett_leaf]
  rw [show g47 (S8.mk x.f48 x.f49 x.f50 x.f51 x.f52 x.f53 x.f54 x.f55 x.f56 x.f57 x.f58 x.f59 x.f60 x.f61 x.f62 x.f63) = g71 (S8.mk x.f48 x.f49 x.f50 x.f51 x.f52 x.f53 x.f54 x.f55 x.f56 x.f57 x.f58 x.f59 x.f60 x.f61 x.f62 x.f63) from rfl, superior_eq (v := S6.mk x.f56 x.f57 x.f58 x.f59) (u := S6.mk x.f36 x.f37 x.f38 x.f39) h.m h.p, cmp_ge (v := S6.mk x.f56 x.f57 x.f58 x.f59) (u := S6.mk x.f36 x.f37 x.f38 x.f39) h.m h.p]
  generalize g71 (S8.mk x.f48 x.f49 x.f50 x.f51 x.f52 x.f53 x.f54 x.f55 x.f56 x.f57 x.f58 x.f59 x.f60 x.f61 x.f62 x.f63) = d
  generalize (bif eqS6 (S6.mk x.f56 x.f57 x.f58 x.f59) (S6.mk x.f36 x.f37 x.f38 x.f39) then eqS5 (S5.mk x.f60 x.f61 x.f62 x.f63) (S5.mk x.f44 x.f45 x.f46 x.f47) else false) = s
  generalize g72 (S6.mk x.f56 x.f57 x.f58 x.f59) (S6.mk x.f36 x.f37 x.f38 x.f39) = u
  generalize g70 (S6.mk x.f56 x.f57 x.f58 x.f59) (S6.mk x.f36 x.f37 x.f38 x.f39) = w
  rw [show (x.f48 != 3) = !(x.f48 == 3) from rfl]
  generalize (x.f48 == 3) = a
  generalize (x.f55 == 3) = b
  generalize (x.f55 == 1) = c
  generalize (x.f55 == 2) = e
  cases d <;> cases s <;> cases u <;> cases w <;> cases a <;> cases b <;> cases c <;> cases e <;> rfl

theorem better_eq {x : S0} (hp : Vok (kof x).p) (hm : Vok (kof x).m) (hd : Vok (kof x).d) (i : Int) : g40 x i = g60 x i := by
  simp only [g40, g40T, g60, g60T, gett_br, gett_leaf, g59_eq (v := S6.mk x.f36 x.f37 x.f38 x.f39) (u := S6.mk x.f56 x.f57 x.f58 x.f59) hp hm, g59_eq (v := S6.mk x.f36 x.f37 x.f38 x.f39) (u := S6.mk x.f32 x.f33 x.f34 x.f35) hp hd]
  by_cases a : i = 3
  · subst a
    simp only [beq_self_eq_true, cond_true, bne]
    cases (x.f29 == 3) <;> rfl
  rw [beq_eq_false_iff_ne.mpr a]
  by_cases b : i = 2
  · subst b
    simp only [beq_self_eq_true, cond_true, cond_false, bne]
    cases (x.f29 == 2) <;> rfl
  rw [beq_eq_false_iff_ne.mpr b]
  simp only [cond_false]
  cases (x.f29 != i) <;> rfl

theorem times_eq {x : S0} (h : 0 ≤ x.f62) : g50 x = g73 x := by
  simp only [g50, g50T, g73, g73T, gett_br, gett_leaf, mxI]
  by_cases z : x.f62 = 0
  · simp [z]
  · simp only [beq_false_of_ne z, cond_false]
    by_cases o : (1 : Int) > x.f62
    · exfalso; omega
    · rw [if_neg o]
theorem while_eq {x : S0} (h4 : B8 x.f44) (h5 : B8 x.f45) (h6 : B8 x.f46) : g38 x = g63 x := by
  unfold B8 at *
  simp only [g38, g38T, g63, g63T, gett_br, gett_leaf, mnI]
  rw [IntWalk.i64_in x.f46 (by omega), IntWalk.i64_in x.f44 (by omega), IntWalk.i64_in x.f45 (by omega), IntWalk.i64_in (3 * x.f46) (by omega), IntWalk.i64_in (x.f44 + 1) (by omega)]
  by_cases a : x.f44 < x.f45
  · rw [decide_eq_true a, decide_eq_true (show x.f44 + 1 ≤ x.f45 by omega)]
    by_cases b : 3 * x.f46 < 255
    · rw [if_pos b, decide_eq_false (show ¬ 3 * x.f46 > 255 by omega)]; rfl
    · rw [if_neg b]
      by_cases c : 3 * x.f46 > 255
      · rw [decide_eq_true c]; rfl
      · rw [decide_eq_false c, show 3 * x.f46 = 255 by omega]; rfl
  · rw [decide_eq_false a, decide_eq_false (show ¬ x.f44 + 1 ≤ x.f45 by omega)]; rfl

def c1 (x : S0) : S0 := { x with f4 := false, f13 := false }
def c2 (b : Bool) (x : S0) : S0 := { x with f3 := (bif x.f3 then b else false) }
def c3 (x : S0) : S0 := { x with f25 := (bif x.f25 then x.f4 else false) }
def c4 (x : S0) : S0 := { x with f21 := true, f22 := false, f29 := 3 }
def c5 (x : S0) : S0 := { x with f14 := false }
theorem g62_chain (x : S0) : g62 x = c4 (g63 (g73 (g74 (c3 (g64 (c2 (g60 (g65 (g66 (c1 x))) 3) (g65 (g66 (c1 x)))))))) ) := rfl
theorem g34_chain (x : S0) : g34 x = c4 (g38 (g50 (g74 (c3 (g64 (c2 (g40 (g65 (g66 (c1 x))) 3) (g65 (g66 (c1 x)))))))) ) := rfl
theorem g22_chain (x : S0) : g22 x = (bif g33 x == 1 then c5 (g34 x) else bif g33 x == 2 then c5 (g38 (g64 (g65 (g66 x)))) else bif g33 x == 3 then c5 (g67 x) else bif g33 x == 4 then c5 (g65 (g64 x)) else bif x.f48 == 2 then c5 (g65 x) else c5 x) := by
  simp only [g22, g22T, gett_br, gett_leaf]; rfl
theorem g45_chain (x : S0) : g45 x = (bif g61 x == 1 then c5 (g62 x) else bif g61 x == 2 then c5 (g63 (g64 (g65 (g66 x)))) else bif g61 x == 3 then c5 (g67 x) else bif g61 x == 4 then c5 (g65 (g64 x)) else bif x.f48 == 2 then c5 (g65 x) else c5 x) := by
  simp only [g45, g45T, gett_br, gett_leaf]; rfl

theorem kc1 (x : S0) : kof (c1 x) = kof x := rfl
theorem kc2 (b : Bool) (x : S0) : kof (c2 b x) = kof x := rfl
theorem kc3 (x : S0) : kof (c3 x) = kof x := rfl
theorem kc5 (x : S0) : kof (c5 x) = kof x := rfl

theorem receives_eq {x : S0} (h : Pok x) : g22 x = g45 x := by
  rw [g22_chain, g45_chain, info_eq h]
  have e1 : g34 x = g62 x := by
    rw [g34_chain, g62_chain]
    have hk : kof (g65 (g66 (c1 x))) = kof x := by rw [k65, k66, kc1]
    rw [better_eq (by rw [hk]; exact h.p) (by rw [hk]; exact h.m) (by rw [hk]; exact h.d)]
    generalize g60 (g65 (g66 (c1 x))) 3 = b
    have hk2 : kof (c3 (g64 (c2 b (g65 (g66 (c1 x)))))) = kof x := by rw [kc3, k64, kc2, hk]
    generalize c3 (g64 (c2 b (g65 (g66 (c1 x))))) = y at *
    have a60 : (g74 y).f60 = x.f60 := congrArg K.a hk2
    have a61 : (g74 y).f61 = x.f61 := congrArg K.b hk2
    have a62 : (g74 y).f62 = x.f62 := congrArg K.c hk2
    rw [times_eq (by rw [a62]; exact h.c.1)]
    generalize g74 y = z at *
    have hz : (g73 z).f44 = x.f60 ∧ (g73 z).f45 = x.f61 ∧ B8 (g73 z).f46 := by
      have : ∀ w : S0, w = g73 z → w.f44 = x.f60 ∧ w.f45 = x.f61 ∧ B8 w.f46 := by
        intro w hw
        simp only [g73, g73T, gett_br, gett_leaf] at hw
        cases hc : z.f62 == 0
        · rw [hc] at hw; simp only [cond_false] at hw; rw [hw]
          exact ⟨a60, a61, by show B8 z.f62; rw [a62]; exact h.c⟩
        · rw [hc] at hw; simp only [cond_true] at hw; rw [hw]
          exact ⟨a60, a61, by show B8 1; unfold B8; omega⟩
      exact this _ rfl
    rw [while_eq (by rw [hz.1]; exact h.a) (by rw [hz.2.1]; exact h.b) hz.2.2]
  have e2 : g38 (g64 (g65 (g66 x))) = g63 (g64 (g65 (g66 x))) := by
    have hk : kof (g64 (g65 (g66 x))) = kof x := by rw [k64, k65, k66]
    exact while_eq (by rw [show (g64 (g65 (g66 x))).f44 = x.f44 from congrArg K.s hk]; exact h.s) (by rw [show (g64 (g65 (g66 x))).f45 = x.f45 from congrArg K.t hk]; exact h.t) (by rw [show (g64 (g65 (g66 x))).f46 = x.f46 from congrArg K.u hk]; exact h.u)
  rw [e1, e2]

theorem updated_eq {x : S0} (h : Pok x) : g23 x = g44 x := by
  simp only [g23, g23T, g44, g44T, gett_leaf, better_eq h.p h.m h.d]

theorem take_eq (x : S0) (m : S8) : g26 x m = g27 x m := by
  simp only [g26, g26T, g27, g27T, gett_br, gett_leaf, bne]
  cases x.f2 <;> cases h3 : (m.f0 == 3) <;> cases h1 : (m.f0 == 1) <;> cases h2 : (m.f0 == 2) <;> simp

/-- A received port keeps these. -/
theorem recv_keeps (x : S0) : (g45 x).f2 = x.f2 ∧ (g45 x).f28 = x.f28 ∧ (g45 x).f72 = x.f72 ∧ (g45 x).f14 = false ∧ ((g45 x).f29 = 3 ∨ (g45 x).f29 = x.f29) := by
  have tr : ∀ y : S0, kof y = kof x → (c5 y).f2 = x.f2 ∧ (c5 y).f28 = x.f28 ∧ (c5 y).f72 = x.f72 ∧ (c5 y).f14 = false ∧ ((c5 y).f29 = 3 ∨ (c5 y).f29 = x.f29) := by
    intro y hy
    exact ⟨congrArg K.f2 hy, congrArg K.f28 hy, congrArg K.f72 hy, rfl, .inr (congrArg K.f29 hy)⟩
  have h62 : (c5 (g62 x)).f2 = x.f2 ∧ (c5 (g62 x)).f28 = x.f28 ∧ (c5 (g62 x)).f72 = x.f72 ∧ (c5 (g62 x)).f14 = false ∧ ((c5 (g62 x)).f29 = 3 ∨ (c5 (g62 x)).f29 = x.f29) := by
    rw [g62_chain]
    generalize g60 (g65 (g66 (c1 x))) 3 = b
    have hk2 : kof (c3 (g64 (c2 b (g65 (g66 (c1 x)))))) = kof x := by rw [kc3, k64, kc2, k65, k66, kc1]
    generalize c3 (g64 (c2 b (g65 (g66 (c1 x))))) = y at *
    have h73 : ∀ z : S0, (g73 z).f2 = z.f2 ∧ (g73 z).f28 = z.f28 ∧ (g73 z).f72 = z.f72 := by
      intro z
      simp only [g73, g73T, gett_br, gett_leaf]
      cases z.f62 == 0 <;> exact ⟨rfl, rfl, rfl⟩
    have hz : (g73 (g74 y)).f2 = x.f2 ∧ (g73 (g74 y)).f28 = x.f28 ∧ (g73 (g74 y)).f72 = x.f72 := by
      obtain ⟨a, b, c⟩ := h73 (g74 y)
      exact ⟨a.trans (congrArg K.f2 hk2), b.trans (congrArg K.f28 hk2), c.trans (congrArg K.f72 hk2)⟩
    generalize g73 (g74 y) = z at *
    have hk := k63 z
    exact ⟨(congrArg K.f2 hk).trans hz.1, (congrArg K.f28 hk).trans hz.2.1, (congrArg K.f72 hk).trans hz.2.2, rfl, .inl rfl⟩
  rw [g45_chain]
  cases g61 x == 1
  · cases g61 x == 2
    · cases g61 x == 3
      · cases g61 x == 4
        · cases x.f48 == 2
          · exact tr x rfl
          · exact tr _ (k65 x)
        · exact tr _ (by rw [k65, k64])
      · exact tr _ (k67 x)
    · exact tr _ (by rw [k63, k64, k65, k66])
  · exact h62

end Ab11
