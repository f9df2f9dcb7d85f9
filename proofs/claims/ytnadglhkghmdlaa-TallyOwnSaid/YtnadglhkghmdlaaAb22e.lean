/- Seat 22: the plain laws: any calls; differences. -/
import Derived.Test.YtnadglhkghmdlaaAb22d
set_option maxRecDepth 100000
set_option maxHeartbeats 2000000
set_option linter.unusedVariables false
set_option linter.unusedSimpArgs false
namespace Ab22
open Go Ab

theorem ne_self {a : Int} : (a != a) = false := by simp

theorem few_eq (l : List S1) : ∃ m, g16 l = some m ∧ m.length ≤ 30 := by
  unfold g16 g16T
  simp only [get_br, get_leaf, get_fail]
  by_cases h : (l.length : Int) > 30
  · have h1 : (decide (0 ≤ 30) && decide (30 ≤ (l.length : Int))) = true := by simp only [Bool.and_eq_true, decide_eq_true_eq]; omega
    simp only [h, decide_true, cond_true, h1]
    exact ⟨_, rfl, by rw [List.length_take]; exact Nat.min_le_left _ _⟩
  · simp only [h, decide_false, cond_false]
    exact ⟨_, rfl, by omega⟩

theorem loopRuns (ops : List S0) (l : List S1) (hl : l.length ≤ 30) : ∃ w, iter2 gR5_0 2000000 ⟨ops, l, false, 0, T0, R T0⟩ = some (.inl w) := by
  obtain ⟨w, hw, _⟩ := iter2_inv (R := gR5_0) (fun j v => v.a0 = ops ∧ v.a1 = l ∧ v.a3 = (j : Int) ∧ j ≤ 60 ∧ Ok v.a4 ∧ v.a5 = R v.a4) (fun _ => True) 60 (fun j v q => q.2.2.2.1)
    (fun j v ⟨e0, e1, e3, ej, eo, e5⟩ => by
      unfold gR5_0
      simp only [get_br, get_opt, get_leaf, get_fail, e0, e1, e5]
      by_cases hl' : v.a3 < (ops.length : Int)
      · by_cases hj : v.a3 < 60
        · left
          have hp : (0 : Int) ≤ v.a3 := by omega
          obtain ⟨y, hy⟩ : ∃ y, ops[Int.toNat v.a3]? = some y := by
            rw [List.getElem?_eq_getElem (by omega)]; exact ⟨_, rfl⟩
          have hw3 : IntKind.i64.wrap (v.a3 + 1) = ((j + 1 : Nat) : Int) := by rw [w64 (by omega)]; omega
          have ho := addP_ok eo y.f1 y.f2
          simp only [hl', hj, decide_true, cond_true, hp, hy, Option.bind_some, eo.made, Bool.not_true, cond_false, g10_eq eo, g19_eq eo, ne_self, Bool.not_false, g11_eq ho, g20_eq ho, hw3, ho.made]
          cases remI y.f0 6 == 5 with
          | true =>
            simp only [cond_true]
            refine ⟨_, rfl, ?_⟩
            exact ⟨rfl, rfl, rfl, by omega, eo, rfl⟩
          | false =>
            simp only [cond_false]
            have hc : ∀ A : S3, (([(S1.mk A.f0), (S1.mk A.f1), (S1.mk A.f2), (S1.mk A.f3), (S1.mk A.f4), (S1.mk A.f5), (S1.mk A.f6), (S1.mk A.f7), (S1.mk A.f8), (S1.mk A.f9), (S1.mk A.f10), (S1.mk A.f11), (S1.mk A.f12), (S1.mk A.f13), (S1.mk A.f14)] : List S1).isEmpty || cloneB 1 8 [(S1.mk A.f0), (S1.mk A.f1), (S1.mk A.f2), (S1.mk A.f3), (S1.mk A.f4), (S1.mk A.f5), (S1.mk A.f6), (S1.mk A.f7), (S1.mk A.f8), (S1.mk A.f9), (S1.mk A.f10), (S1.mk A.f11), (S1.mk A.f12), (S1.mk A.f13), (S1.mk A.f14)]) = true := fun A => rfl
            have hs : g21 [(S1.mk (addP v.a4 y.f1 y.f2).2.f0), (S1.mk (addP v.a4 y.f1 y.f2).2.f1), (S1.mk (addP v.a4 y.f1 y.f2).2.f2), (S1.mk (addP v.a4 y.f1 y.f2).2.f3), (S1.mk (addP v.a4 y.f1 y.f2).2.f4), (S1.mk (addP v.a4 y.f1 y.f2).2.f5), (S1.mk (addP v.a4 y.f1 y.f2).2.f6), (S1.mk (addP v.a4 y.f1 y.f2).2.f7), (S1.mk (addP v.a4 y.f1 y.f2).2.f8), (S1.mk (addP v.a4 y.f1 y.f2).2.f9), (S1.mk (addP v.a4 y.f1 y.f2).2.f10), (S1.mk (addP v.a4 y.f1 y.f2).2.f11), (S1.mk (addP v.a4 y.f1 y.f2).2.f12), (S1.mk (addP v.a4 y.f1 y.f2).2.f13), (S1.mk (addP v.a4 y.f1 y.f2).2.f14)] (R (addP v.a4 y.f1 y.f2).2) = some true := same_self (R (addP v.a4 y.f1 y.f2).2) (by rw [R_len]; omega)
            rw [hc, hs]
            simp only [cond_true, Option.bind_some, Bool.not_true, Bool.not_false, g23_eq ho l (by omega), g24_eq ho l (by omega), ne_self, cond_false]
            refine ⟨_, rfl, ?_⟩
            exact ⟨rfl, rfl, rfl, by omega, ho, rfl⟩
        · right
          simp only [hl', hj, decide_true, decide_false, cond_true, cond_false]
          exact ⟨_, rfl, trivial⟩
      · right
        simp only [hl', decide_false, cond_false]
        exact ⟨_, rfl, trivial⟩) 2000000 0 ⟨ops, l, false, 0, T0, R T0⟩ ⟨rfl, rfl, rfl, by omega, T0_ok, rfl⟩ (by omega)
  exact ⟨w, hw⟩

theorem law5 (ops : List S0) (l : List S1) : g5 ops l = some true := by
  obtain ⟨m, hm, hl⟩ := few_eq l
  obtain ⟨w, hw⟩ := loopRuns ops m hl
  unfold g5 g5T
  have hw' : iter2 gR5_0 2000000 ⟨ops, m, false, 0, ⟨0, 0, 0, 0, 0, 0, 0, 0, 0, 0, 0, 0, 0, 0, 0, true⟩, g17.f0⟩ = some (.inl w) := hw
  simp only [get_br, get_opt, get_leaf, hm, awake, Option.bind_some, hw', Sum.isRight_inl, cond_false, Sum.getLeft?_inl]
  rfl

theorem loopAdds (ops : List S0) (w n : Int) : ∃ v, iter gR6_0 2000000 ⟨ops, w, n, false, 0, T0⟩ = some (false, v) ∧ Ok v.a5 ∧ v.a1 = w ∧ v.a2 = n := by
  refine iter_inv (R := gR6_0) (fun j v => v.a0 = ops ∧ v.a1 = w ∧ v.a2 = n ∧ v.a4 = (j : Int) ∧ j ≤ 40 ∧ Ok v.a5) (fun v => Ok v.a5 ∧ v.a1 = w ∧ v.a2 = n) 40 (fun j v q => q.2.2.2.2.1)
    (fun j v ⟨e0, e1, e2, e4, ej, eo⟩ => by
      unfold gR6_0
      simp only [get_br, get_opt, get_leaf, get_fail, e0]
      by_cases hl' : v.a4 < (ops.length : Int)
      · by_cases hj : v.a4 < 40
        · left
          have hp : (0 : Int) ≤ v.a4 := by omega
          obtain ⟨y, hy⟩ : ∃ y, ops[Int.toNat v.a4]? = some y := by
            rw [List.getElem?_eq_getElem (by omega)]; exact ⟨_, rfl⟩
          have hw3 : IntKind.i64.wrap (v.a4 + 1) = ((j + 1 : Nat) : Int) := by rw [w64 (by omega)]; omega
          simp only [hl', hj, decide_true, cond_true, hp, hy, Option.bind_some, g10_eq eo, hw3]
          refine ⟨_, rfl, ?_⟩
          exact ⟨rfl, e1, e2, rfl, by omega, addP_ok eo _ _⟩
        · right
          simp only [hl', hj, decide_true, decide_false, cond_true, cond_false]
          exact ⟨v, rfl, eo, e1, e2⟩
      · right
        simp only [hl', decide_false, cond_false]
        exact ⟨v, rfl, eo, e1, e2⟩) 2000000 0 _ ⟨rfl, rfl, rfl, rfl, by omega, T0_ok⟩ (by omega)

theorem getP_gt {T : S3} (h : Ok T) (i : Nat) (hi : i < 15) : getP T (i : Int) = gt T i := by
  unfold getP
  by_cases hw : isW (i : Int)
  · rw [if_pos hw, Int.toNat_natCast]
  · rw [if_neg hw]
    have : i = 0 := by unfold isW at hw; omega
    subst this
    exact h.z.symm

def dfl (A B : S3) : S7 := ⟨IntKind.i64.wrap (getP A 0 - getP B 0), IntKind.i64.wrap (getP A 1 - getP B 1), IntKind.i64.wrap (getP A 2 - getP B 2), IntKind.i64.wrap (getP A 3 - getP B 3), IntKind.i64.wrap (getP A 4 - getP B 4), IntKind.i64.wrap (getP A 5 - getP B 5), IntKind.i64.wrap (getP A 6 - getP B 6), IntKind.i64.wrap (getP A 7 - getP B 7), IntKind.i64.wrap (getP A 8 - getP B 8), IntKind.i64.wrap (getP A 9 - getP B 9), IntKind.i64.wrap (getP A 10 - getP B 10), IntKind.i64.wrap (getP A 11 - getP B 11), IntKind.i64.wrap (getP A 12 - getP B 12), IntKind.i64.wrap (getP A 13 - getP B 13), IntKind.i64.wrap (getP A 14 - getP B 14)⟩
def df0 (A : S3) : S7 := ⟨IntKind.i64.wrap (getP A 0 - 0), IntKind.i64.wrap (getP A 1 - 0), IntKind.i64.wrap (getP A 2 - 0), IntKind.i64.wrap (getP A 3 - 0), IntKind.i64.wrap (getP A 4 - 0), IntKind.i64.wrap (getP A 5 - 0), IntKind.i64.wrap (getP A 6 - 0), IntKind.i64.wrap (getP A 7 - 0), IntKind.i64.wrap (getP A 8 - 0), IntKind.i64.wrap (getP A 9 - 0), IntKind.i64.wrap (getP A 10 - 0), IntKind.i64.wrap (getP A 11 - 0), IntKind.i64.wrap (getP A 12 - 0), IntKind.i64.wrap (getP A 13 - 0), IntKind.i64.wrap (getP A 14 - 0)⟩

theorem g25_eq {A B : S3} (hA : Ok A) (hB : Ok B) : g25_1 ⟨A, B⟩ = some ⟨dfl A B⟩ := by
  unfold g25_1 g25_1T
  simp only [get_optS, get_leaf, g11_eq hA, g11_eq hB]
  rfl
theorem g25_eq0 {A : S3} (hA : Ok A) : g25_0 ⟨A⟩ = some ⟨df0 A⟩ := by
  unfold g25_0 g25_0T
  simp only [get_optS, get_leaf, g11_eq hA]
  rfl
def R7 (D : S7) : List S1 := [(S1.mk D.f0), (S1.mk D.f1), (S1.mk D.f2), (S1.mk D.f3), (S1.mk D.f4), (S1.mk D.f5), (S1.mk D.f6), (S1.mk D.f7), (S1.mk D.f8), (S1.mk D.f9), (S1.mk D.f10), (S1.mk D.f11), (S1.mk D.f12), (S1.mk D.f13), (S1.mk D.f14)]
theorem R7_get (D : S7) : ∀ i, i < 15 → (R7 D)[i]? = some ⟨selI (enc7 D) i⟩ := cases15 ⟨rfl, rfl, rfl, rfl, rfl, rfl, rfl, rfl, rfl, rfl, rfl, rfl, rfl, rfl, rfl⟩
theorem df0_get (A : S3) : ∀ i, i < 15 → selI (enc7 (df0 A)) i = IntKind.i64.wrap (getP A (i : Int) - 0) := cases15 ⟨rfl, rfl, rfl, rfl, rfl, rfl, rfl, rfl, rfl, rfl, rfl, rfl, rfl, rfl, rfl⟩
theorem dfl_get (A B : S3) : ∀ i, i < 15 → selI (enc7 (dfl A B)) i = IntKind.i64.wrap (getP A (i : Int) - getP B (i : Int)) := cases15 ⟨rfl, rfl, rfl, rfl, rfl, rfl, rfl, rfl, rfl, rfl, rfl, rfl, rfl, rfl, rfl⟩
theorem R7_df0 {A : S3} (h : Ok A) : R7 (df0 A) = R A := by
  apply List.ext_getElem?
  intro i
  by_cases hi : i < 15
  · rw [R7_get _ i hi, R_get A i hi, df0_get A i hi, getP_gt h i hi, Int.sub_zero, w64 (by have := h.rg i hi; omega)]
  · rw [List.getElem?_eq_none (by show 15 ≤ i; omega), List.getElem?_eq_none (by rw [R_len]; omega)]

theorem diff_one {A : S3} (h : Ok A) (w n : Int) (i : Nat) (hi : i < 15) : selI (enc7 (dfl (addP A w n).2 A)) i = (if (addP A w n).1 = 0 ∧ (i : Int) = w then n else 0) ∧ 0 ≤ selI (enc7 (dfl (addP A w n).2 A)) i := by
  have hA := addP_ok h w n
  rw [dfl_get _ _ i hi, getP_gt hA i hi, getP_gt h i hi]
  have r1 := h.rg i hi
  have r2 := hA.rg i hi
  rw [w64 (by omega)]
  unfold addP
  by_cases hc : ¬ isW w ∨ n < 0 ∨ n > 1073741824
  · rw [if_pos hc, if_neg (fun q => by have := q.1; simp at this)]
    simp
  · rw [if_neg hc]
    have hw : isW w := by
      by_cases q : isW w
      · exact q
      · exact absurd (.inl q) hc
    have hn : ¬ n < 0 := fun q => hc (.inr (.inl q))
    unfold isW at hw
    by_cases hd : gt A w.toNat > 1125899906842624 - n
    · rw [if_pos hd, if_neg (fun q => by have := q.1; simp at this)]
      simp
    · rw [if_neg hd]
      dsimp only
      rw [gt_st (by omega) hi]
      by_cases hh : w.toNat = i
      · have : (i : Int) = w := by omega
        rw [if_pos hh, if_pos ⟨rfl, this⟩, hh]
        omega
      · have : ¬ (i : Int) = w := by omega
        rw [if_neg hh, if_neg (fun q => this q.2)]
        omega

theorem loopDiff (A : S3) (h : Ok A) (w n : Int) (v : W6_2) (e1 : v.a1 = w) (e2 : v.a2 = n) (e5 : v.a5 = (addP A w n).1) (e6 : v.a6 = 0) (e8 : v.a8 = dfl (addP A w n).2 A) : ∃ u, iter2 gR6_2 2000000 v = some (.inl u) := by
  obtain ⟨u, hu, _⟩ := iter2_inv (R := gR6_2) (fun j v => v.a1 = w ∧ v.a2 = n ∧ v.a5 = (addP A w n).1 ∧ v.a6 = (j : Int) ∧ j ≤ 15 ∧ v.a8 = dfl (addP A w n).2 A) (fun _ => True) 15 (fun j v q => q.2.2.2.2.1)
    (fun j v ⟨e1, e2, e5, e6, ej, e8⟩ => by
      unfold gR6_2
      simp only [get_br, get_leaf, get_fail, e1, e2, e5, e6, e8]
      by_cases hj : (j : Int) < 15
      · left
        have hj' : j < 15 := by omega
        have h1 : (0 : Int) ≤ (j : Int) := by omega
        have h2 : Nat.blt j 15 = true := by simp [Nat.blt, Nat.ble_eq]; omega
        have hw : IntKind.i64.wrap ((j : Int) + 1) = ((j + 1 : Nat) : Int) := by rw [w64 (by omega)]; omega
        obtain ⟨d1, d2⟩ := diff_one h w n j hj'
        have h3 : ¬ selI (enc7 (dfl (addP A w n).2 A)) j < 0 := by omega
        simp only [hj, h1, decide_true, cond_true, Bool.and_self, Int.toNat_natCast, h2, h3, decide_false, cond_false, hw]
        by_cases hh : (addP A w n).1 = 0 ∧ (j : Int) = w
        · have c : (bif ((addP A w n).1 == 0) then ((j : Int) == w) else false) = true := by simp [hh.1, hh.2]
          rw [if_pos hh] at d1
          simp only [c, cond_true, d1, ne_self, Bool.not_false]
          refine ⟨_, rfl, ?_⟩
          exact ⟨rfl, rfl, rfl, rfl, by omega, rfl⟩
        · have c : (bif ((addP A w n).1 == 0) then ((j : Int) == w) else false) = false := by
            by_cases a : (addP A w n).1 = 0
            · have : ¬ (j : Int) = w := fun q => hh ⟨a, q⟩
              simp [a, this]
            · simp [a]
          rw [if_neg hh] at d1
          simp only [c, cond_false, d1, ne_self, Bool.not_false, cond_true]
          refine ⟨_, rfl, ?_⟩
          exact ⟨rfl, rfl, rfl, rfl, by omega, rfl⟩
      · right
        simp only [hj, decide_false, cond_false]
        exact ⟨_, rfl, trivial⟩) 2000000 0 v ⟨e1, e2, e5, e6, by omega, e8⟩ (by omega)
  exact ⟨u, hu⟩

theorem law6 (ops : List S0) (w n : Int) : g6 ops w n = some true := by
  obtain ⟨v, hv, ho, v1, v2⟩ := loopAdds ops w n
  have hA := addP_ok ho w n
  have hv' : iter gR6_0 2000000 ⟨ops, w, n, false, 0, ⟨0, 0, 0, 0, 0, 0, 0, 0, 0, 0, 0, 0, 0, 0, 0, true⟩⟩ = some (false, v) := hv
  obtain ⟨u, hu⟩ := loopDiff v.a5 ho w n ⟨v.a0, w, n, v.a3, v.a4, (addP v.a5 w n).1, 0, (addP v.a5 w n).2, dfl (addP v.a5 w n).2 v.a5⟩ rfl rfl rfl rfl rfl
  have hs : g21 (R7 (df0 (addP v.a5 w n).2)) (R (addP v.a5 w n).2) = some true := by
    rw [R7_df0 hA]
    exact same_self _ (by rw [R_len]; omega)
  have hc : ∀ A : S3, (([(S1.mk A.f0), (S1.mk A.f1), (S1.mk A.f2), (S1.mk A.f3), (S1.mk A.f4), (S1.mk A.f5), (S1.mk A.f6), (S1.mk A.f7), (S1.mk A.f8), (S1.mk A.f9), (S1.mk A.f10), (S1.mk A.f11), (S1.mk A.f12), (S1.mk A.f13), (S1.mk A.f14)] : List S1).isEmpty || cloneB 1 8 [(S1.mk A.f0), (S1.mk A.f1), (S1.mk A.f2), (S1.mk A.f3), (S1.mk A.f4), (S1.mk A.f5), (S1.mk A.f6), (S1.mk A.f7), (S1.mk A.f8), (S1.mk A.f9), (S1.mk A.f10), (S1.mk A.f11), (S1.mk A.f12), (S1.mk A.f13), (S1.mk A.f14)]) = true := fun A => rfl
  unfold R7 R at hs
  unfold g6 g6T
  simp only [get_br, get_optS, get_leaf, awake, hv', Bool.not_true, cond_false, ho.made, v1, v2, g10_eq ho, g25_eq hA ho, g25_eq0 hA, hA.made]
  rw [hc]
  simp only [cond_true]
  rw [hs]
  simp only [get_optS, get_br, get_leaf, Bool.not_true, cond_false, hu]
  rfl

end Ab22
