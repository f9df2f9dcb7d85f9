/- Seat 31: the plain laws: any frames; meters that nobody made. -/
import Derived.Test.YtcdimepfojdjdaaAb31c
set_option maxRecDepth 100000
set_option maxHeartbeats 1000000
set_option linter.unusedVariables false
set_option linter.unusedSimpArgs false
namespace Ab31
open Go Ab

theorem lev_neg {m : S3} (hm : Cf m) : lev m (-1) = (m.f6, m.f7) := by
  unfold lev
  rw [if_neg (by have := hm.t; omega)]

theorem ne_self {a : Int} : (a != a) = false := by simp

/-- A frame's round, at whatever tick. -/
theorem round {m : S3} (hm : Cf m) (raw at_ s c : Int) :
    ∃ y, g10_1 ⟨at_, s, c, m⟩ = some y ∧ Cf y.b2 ∧ g15 (toR m) at_ s c = some (toR y.b2, y.b0, y.b1) :=
  ⟨_, g10_eq hm at_ s c, mark_cf hm at_ s c, g15_eq hm at_ s c⟩

theorem loopRuns (l : List S1) (raw : Int) : ∀ (v : W5_0v1), v.a0 = l → v.a1 = raw → v.a4 = 0 → Cf v.a5 → v.a6 = toR v.a5 → ∃ w, iter2 gR5_0v1 1000000 v = some (.inl w) := by
  intro v h0 h1 h4 hc h6
  have := iter2_inv (R := gR5_0v1) (fun j v => v.a0 = l ∧ v.a1 = raw ∧ v.a4 = (j : Int) ∧ j ≤ 100 ∧ Cf v.a5 ∧ v.a6 = toR v.a5) (fun _ => True) 100 (fun j v h => h.2.2.2.1)
    (fun j v ⟨e0, e1, e4, ej, hm, e6⟩ => by
      unfold gR5_0v1
      simp only [get_br, get_opt, get_leaf, get_fail]
      by_cases hl : v.a4 < (v.a0.length : Int)
      · by_cases hj : v.a4 < 100
        · left
          have hg : (bif (bif (decide (v.a4 < (v.a0.length : Int))) then (decide (v.a4 < 100)) else false) then true else false) = true := by simp [hl, hj]
          have hp : (0 : Int) ≤ v.a4 := by omega
          obtain ⟨y, hy⟩ : ∃ y, v.a0[Int.toNat v.a4]? = some y := by
            rw [List.getElem?_eq_getElem (by omega)]; exact ⟨_, rfl⟩
          rw [hg, hy]
          have hw4 : IntKind.i64.wrap (v.a4 + 1) = v.a4 + 1 := w64 (by omega)
          have big := g10_eq hm 1099511627776 1 1
          have key : ∀ (at_ : Int), ∃ z, g10_1 ⟨at_, y.f1, y.f2, v.a5⟩ = some z ∧ Cf z.b2 ∧ g15 v.a6 at_ y.f1 y.f2 = some (toR z.b2, z.b0, z.b1) := fun at_ => by
            rw [e6]; exact round hm raw at_ y.f1 y.f2
          simp only [hp, decide_true, cond_true, Option.bind_some, hm.made, Bool.not_true, cond_false, big]
          have fin : ∀ (at_ t' : Int), ∃ v' : W5_0v1, ((g10_1 ⟨at_, y.f1, y.f2, v.a5⟩).bind fun z => (g15 v.a6 at_ y.f1 y.f2).bind fun z1 => (g11_1 ⟨z.b2, v.a1⟩).bind fun z2 => (g16 z1.1 v.a1).bind fun z3 => (g11_1 ⟨z.b2, -1⟩).bind fun z4 =>
              bif (bif (bif (bif (bif (bif (bif (z.b0 != z1.2.1) then true else (z.b1 != z1.2.2)) then true else (z2.b0 != z3.1)) then true else (z2.b1 != z3.2)) then true else (z4.b0 != z1.1.f6)) then true else (z4.b1 != z1.1.f7)) then true else ((g17_1 ⟨z.b2⟩).b0 != z1.1.f8)) then some (Sum.inr (Sum.inr (U5_0v1.mk false))) else some (Sum.inl { v with a3 := mxI t' z1.1.f8, a4 := IntKind.i64.wrap (v.a4 + 1), a5 := z.b2, a6 := z1.1 })) = (some (.inl v') : Option (W5_0v1 ⊕ (W5_0v1 ⊕ U5_0v1))) ∧
              v'.a0 = l ∧ v'.a1 = raw ∧ v'.a4 = ((j + 1 : Nat) : Int) ∧ j + 1 ≤ 100 ∧ Cf v'.a5 ∧ v'.a6 = toR v'.a5 := by
            intro at_ t'
            obtain ⟨z, z1, z2, z3⟩ := key at_
            rw [z1, z3]
            have r6 : (toR z.b2).f6 = z.b2.f6 := rfl
            have r7 : (toR z.b2).f7 = z.b2.f7 := rfl
            have r8 : (toR z.b2).f8 = z.b2.f8 := rfl
            simp only [Option.bind_some, g11_eq z2, g16_eq z2, lev_neg z2, g17_eq z2, r6, r7, r8, ne_self, cond_false, hw4]
            exact ⟨_, rfl, e0, e1, by show v.a4 + 1 = _; omega, by omega, z2, rfl⟩
          by_cases hf : y.f0 ≥ 0
          · cases hf3 : y.f3
            · simp only [hf, decide_true, cond_true, cond_false]
              exact fin _ _
            · simp only [hf, decide_true, cond_true]
              exact fin _ _
          · cases hf3 : y.f3
            · simp only [hf, decide_false, cond_false]
              exact fin _ _
            · simp only [hf, decide_false, cond_false, cond_true]
              exact fin _ _
        · right
          have hg : (bif (bif (decide (v.a4 < (v.a0.length : Int))) then (decide (v.a4 < 100)) else false) then true else false) = false := by simp [hl, hj]
          rw [hg]
          exact ⟨v, rfl, trivial⟩
      · right
        have hg : (bif (bif (decide (v.a4 < (v.a0.length : Int))) then (decide (v.a4 < 100)) else false) then true else false) = false := by simp [hl]
        rw [hg]
        exact ⟨v, rfl, trivial⟩) 1000000 0 v ⟨h0, h1, by simpa using h4, by omega, hc, h6⟩ (by omega)
  obtain ⟨w, hw, _⟩ := this
  exact ⟨w, hw⟩

theorem loopNil (v : W5_0) : iter2 gR5_0 1000000 v = some (.inl v) := by
  unfold iter2
  have : (gR5_0 v).get? = some (.inr (.inl v)) := by
    unfold gR5_0
    simp only [get_br, get_leaf]
    have hg : (bif (bif (decide (v.a4 < (v.a0.length : Int))) then (decide (v.a4 < 100)) else false) then false else false) = false := by
      cases (bif (decide (v.a4 < (v.a0.length : Int))) then (decide (v.a4 < 100)) else false) <;> rfl
    rw [hg]; rfl
  rw [this]

theorem new_cf {x : S7} (h : okC x) : Cf ⟨x.f0, x.f1, x.f2, x.f3, x.f4, x.f5, x.f1, x.f3, 0, true⟩ := by
  obtain ⟨h0, h1, h2, h3⟩ := h
  exact ⟨rfl, h0, h1, h2, h3, ⟨h1.1, Int.le_refl _⟩, ⟨h3.1, Int.le_refl _⟩, ⟨Int.le_refl _, by show (0 : Int) ≤ _; omega⟩⟩

theorem law5 (x : S7) (l : List S1) (raw : Int) : g5 x l raw = some true := by
  unfold g5 g5T
  simp only [g13_eq, g12_eq]
  by_cases h : okC x
  · simp only [h, if_true, get_br, awake, get_optS, get_opt, get_leaf]
    obtain ⟨w, hw⟩ := loopRuns l raw ⟨l, raw, false, 0, 0, ⟨x.f0, x.f1, x.f2, x.f3, x.f4, x.f5, x.f1, x.f3, 0, true⟩, ⟨x.f0, x.f1, x.f2, x.f3, x.f4, x.f5, x.f1, x.f3, 0⟩⟩ rfl rfl rfl (new_cf h) rfl
    rw [hw]
    rfl
  · simp only [h, if_false, get_br, awake, get_optS, get_opt, get_leaf]
    rw [loopNil]
    rfl

theorem law6 (a b c : Int) : g6 a b c = some true := by
  unfold g6 g6T
  have h1 : g10_1 ⟨a, b, c, ⟨0, 0, 0, 0, false, false, 0, 0, 0, false⟩⟩ = some ⟨0, 4, ⟨0, 0, 0, 0, false, false, 0, 0, 0, false⟩⟩ := rfl
  have h2 : g11_1 ⟨⟨0, 0, 0, 0, false, false, 0, 0, 0, false⟩, a⟩ = some ⟨0, 0⟩ := rfl
  have h3 : g17_1 ⟨⟨0, 0, 0, 0, false, false, 0, 0, 0, false⟩⟩ = ⟨0⟩ := rfl
  simp only [h1, get_optS, h2, h3, awake, get_br, get_leaf]
  rfl

end Ab31
