/- Seat 25: the plain laws: WireRuns. -/
import Derived.Test.YtdflhpknkcjfpaaAb25g
set_option maxRecDepth 100000
set_option maxHeartbeats 2000000
set_option linter.unusedVariables false
set_option linter.unusedSimpArgs false
namespace Ab25
open Go Ab

theorem ba0 : ((ByteArray.mk #[]) == (ByteArray.mk #[])) = true := ba_rfl _

theorem runStep (x0 : List S1) (j : Nat) (h1 : j < x0.length) (h2 : j < 80) (q t : Bool) (a b c d : List S2) (h : Inv a b c d j) :
    ∃ t' a' b' c' d', (gR5_0 ⟨x0, q, (j : Int), true, t, a, b, c, d, !t, a, c, b, d⟩).get? = some (.inl ⟨x0, q, ((j + 1 : Nat) : Int), true, t', a', b', c', d', !t', a', c', b', d'⟩) ∧ Inv a' b' c' d' (j + 1) := by
  have hw : IntKind.i64.wrap ((j : Int) + 1) = ((j + 1 : Nat) : Int) := by rw [w64 (by omega)]; omega
  have hm : (decide (0 ≤ (mnI (x0[j].f3.length : Int) 2100)) && decide ((mnI (x0[j].f3.length : Int) 2100) ≤ (x0[j].f3.length : Int))) = true := by
    have : 0 ≤ (mnI (x0[j].f3.length : Int) 2100) ∧ (mnI (x0[j].f3.length : Int) 2100) ≤ (x0[j].f3.length : Int) := by
      unfold mnI; split <;> omega
    simp [this.1, this.2]
  have hl : (List.take (Int.toNat (mnI (x0[j].f3.length : Int) 2100)) x0[j].f3).length ≤ 2100 := by
    have : (mnI (x0[j].f3.length : Int) 2100) ≤ 2100 := by unfold mnI; split <;> omega
    simp only [List.length_take]; omega
  unfold gR5_0
  simp only [get_br, get_opt, decide_eq_true (show (j : Int) < (x0.length : Int) by omega), decide_eq_true (show (j : Int) < 80 by omega), decide_eq_true (show (0 : Int) ≤ (j : Int) by omega), cond_true, Int.toNat_natCast, List.getElem?_eq_getElem h1, Option.bind_some, hm, hw, show S7.mk (!t) a c b d = R t a b c d from rfl, ba0, Bool.not_true, cond_false]
  generalize hv : List.take (Int.toNat (mnI (x0[j].f3.length : Int) 2100)) x0[j].f3 = v at hl
  generalize x0[j] = y
  cases k1 : (y.f0 == 1) with
  | true =>
    obtain ⟨e, t', a', b', c', d', e1, e2, hi⟩ := opSet y.f4 t a b c d j (by omega) h
    have hs := same_eq t' a' b' c' d' j (by omega) hi
    simp only [e1, e2, bne_self_eq_false, cond_true, cond_false, Bool.not_false, Bool.not_true, hs, Option.bind_some, get_leaf]
    exact ⟨t', a', b', c', d', rfl, hi.up⟩
  | false =>
  simp only [cond_false]
  cases k2 : (y.f0 == 2) with
  | true =>
    obtain ⟨e, a', b', e1, e2, hi⟩ := opData y.f1 v hl t a b c d j h
    have hs := same_eq t a' b' c d j (by omega) hi
    simp only [e1, e2, Option.bind_some, bne_self_eq_false, cond_true, cond_false, Bool.not_false, Bool.not_true, hs, get_leaf]
    exact ⟨t, a', b', c, d, rfl, hi.up⟩
  | false =>
  simp only [cond_false]
  cases k3 : (y.f0 == 3) with
  | true =>
    obtain ⟨e, a', b', e1, e2, hi⟩ := opData y.f1 v hl t a b c d j h
    have hs := same_eq t a' b' c d j (by omega) hi
    simp only [e1, e2, Option.bind_some, bne_self_eq_false, cond_true, cond_false, Bool.not_false, Bool.not_true, hs, get_leaf]
    exact ⟨t, a', b', c, d, rfl, hi.up⟩
  | false =>
  simp only [cond_false]
  cases k4 : (y.f0 == 4) with
  | true =>
    obtain ⟨z, ok, a', b', e1, e2, hi⟩ := opTake y.f1 y.f2 t a b c d j h
    have hs := same_eq t a' b' c d j (by omega) hi
    simp only [e1, e2, Option.bind_some, ba_rfl, beq_self_eq_true, cond_true, cond_false, Bool.not_false, Bool.not_true, hs, get_leaf]
    exact ⟨t, a', b', c, d, rfl, hi.up⟩
  | false =>
  simp only [cond_false]
  cases k5 : (y.f0 == 5) with
  | true =>
    obtain ⟨e, a', b', e1, e2, hi⟩ := opTwin y.f1 y.f2 t a b c d j h
    have hs := same_eq t a' b' c d j (by omega) hi
    simp only [e1, e2, Option.bind_some, bne_self_eq_false, cond_true, cond_false, Bool.not_false, Bool.not_true, hs, get_leaf]
    exact ⟨t, a', b', c, d, rfl, hi.up⟩
  | false =>
  simp only [cond_false]
  cases k6 : (y.f0 == 6) with
  | true =>
    obtain ⟨e, c', d', e1, e2, hi⟩ := opSay y.f1 v hl t a b c d j (by omega) h
    have hs := same_eq t a b c' d' (j + 1) (by omega) hi
    simp only [e1, e2, Option.bind_some, bne_self_eq_false, cond_true, cond_false, Bool.not_false, Bool.not_true, hs, get_leaf]
    exact ⟨t, a, b, c', d', rfl, hi⟩
  | false =>
  simp only [cond_false]
  cases k7 : (y.f0 == 7) with
  | true =>
    obtain ⟨z, ok, c', d', e1, e2, hi⟩ := opHear y.f1 t a b c d j (by omega) h
    have hs := same_eq t a b c' d' j (by omega) hi
    simp only [e1, e2, Option.bind_some, ba_rfl, beq_self_eq_true, cond_true, cond_false, Bool.not_false, Bool.not_true, hs, get_leaf]
    exact ⟨t, a, b, c', d', rfl, hi.up⟩
  | false =>
    have hs : g25_0 ⟨!t, a, c, b, d, true, t, a, b, c, d⟩ = _ := same_eq t a b c d j (by omega) h
    simp only [Option.bind_some, cond_true, cond_false, Bool.not_false, Bool.not_true, hs, get_leaf]
    exact ⟨t, a, b, c, d, rfl, h.up⟩

theorem runs (x0 : List S1) : g5 x0 = some true := by
  have key : ∃ w, iter2 gR5_0 1000000 ⟨x0, false, 0, true, false, [], [], [], [], true, [], [], [], []⟩ = some (.inl w) ∧ True := by
    refine iter2_inv (R := gR5_0) (fun j v => j ≤ 80 ∧ ∃ q t a b c d, v = ⟨x0, q, (j : Int), true, t, a, b, c, d, !t, a, c, b, d⟩ ∧ Inv a b c d j) (fun _ => True) 80 (fun j v h => h.1) ?_ 1000000 0 _ ⟨by omega, false, false, [], [], [], [], rfl, ⟨by simp, by simp, by simp, by simp, fun y hy => by simp at hy, fun y hy => by simp at hy, fun y hy => by simp at hy, fun y hy => by simp at hy⟩⟩ (by omega)
    rintro j v ⟨hj, q, t, a, b, c, d, rfl, hi⟩
    by_cases hc : j < x0.length ∧ j < 80
    · obtain ⟨t', a', b', c', d', e1, e2⟩ := runStep x0 j hc.1 hc.2 q t a b c d hi
      exact .inl ⟨_, e1, by omega, q, t', a', b', c', d', rfl, e2⟩
    · refine .inr ⟨⟨x0, q, (j : Int), true, t, a, b, c, d, !t, a, c, b, d⟩, ?_, trivial⟩
      · unfold gR5_0
        have hcond : (bif (decide ((j : Int) < (x0.length : Int))) then (decide ((j : Int) < 80)) else false) = false := by
          by_cases h1 : (j : Int) < (x0.length : Int)
          · rw [decide_eq_true h1, decide_eq_false (show ¬ (j : Int) < 80 by omega)]; rfl
          · rw [decide_eq_false h1]; rfl
        simp only [get_br, hcond, cond_false, get_leaf]
  obtain ⟨w, hw, _⟩ := key
  unfold g5 g5T
  simp only [get_opt, get_br, awake, Option.bind_some, Bool.not_true, cond_false]
  rw [show (g17).f0 = true from rfl, show (g17).f1 = [] from rfl, show (g17).f2 = [] from rfl, show (g17).f3 = [] from rfl, show (g17).f4 = [] from rfl, hw]
  rfl
end Ab25
