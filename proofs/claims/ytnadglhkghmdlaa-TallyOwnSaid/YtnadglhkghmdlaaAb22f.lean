/- Seat 22: the plain law: a tally that nobody made, and what is told is one's own. -/
import Derived.Test.YtnadglhkghmdlaaAb22e
import Derived.Test.YtnadglhkghmdlaaAbArith
set_option maxRecDepth 100000
set_option maxHeartbeats 1000000
set_option linter.unusedVariables false
set_option linter.unusedSimpArgs false
namespace Ab22
open Go Ab

/-- One that nobody made. -/
def Tn : S3 := S3.mk 0 0 0 0 0 0 0 0 0 0 0 0 0 0 0 false
theorem addN (w n : Int) : g10_0 ⟨w, n, Tn⟩ = some ⟨4, Tn⟩ := by kernel_rfl
theorem getN (w : Int) : g11_0 ⟨Tn, w⟩ = some ⟨0⟩ := by kernel_rfl
theorem sumN (l : List S1) (hl : l.length ≤ 100) : g23_0 ⟨Tn, l⟩ = some ⟨0⟩ := by
  obtain ⟨w, hw, hq⟩ := iter_inv (R := gR23_0) (fun j v => v.a0 = Tn ∧ v.a1 = l ∧ v.a4 = ((1 + j : Nat) : Int) ∧ j ≤ 14 ∧ v.a3 = 0) (fun w => w.a3 = 0) 14 (fun j v q => q.2.2.2.1)
    (fun j v ⟨e0, e1, e4, ej, e3⟩ => by
      unfold gR23_0
      simp only [get_br, get_opt, get_leaf, e0, e1]
      by_cases hj : v.a4 ≤ 14
      · left
        have hj' : j < 14 := by omega
        have hw4 : IntKind.i64.wrap (v.a4 + 1) = ((1 + (j + 1) : Nat) : Int) := by rw [w64 (by omega)]; omega
        simp only [hj, decide_true, cond_true, g32_eq l v.a4 hl, Option.bind_some, hw4, getN, e3]
        cases ct l v.a4 with
        | true => exact ⟨_, rfl, rfl, rfl, rfl, by omega, by dsimp only; rw [w64 (by omega)]; rfl⟩
        | false => exact ⟨_, rfl, rfl, rfl, rfl, by omega, rfl⟩
      · right
        simp only [hj, decide_false, cond_false]
        exact ⟨v, rfl, e3⟩) 2000000 0 ⟨Tn, l, 0, 0, 1⟩ ⟨rfl, rfl, rfl, by omega, rfl⟩ (by omega)
  unfold g23_0 g23_0T
  simp only [get_opt, get_br, get_leaf, hw, Option.bind_some, cond_false, hq]
theorem sumNil (l : List S1) (hl : l.length ≤ 100) : g23_1 ⟨l⟩ = some ⟨0⟩ := by
  obtain ⟨w, hw, hq⟩ := iter_inv (R := gR23_0v1) (fun j v => v.a0 = l ∧ v.a3 = ((1 + j : Nat) : Int) ∧ j ≤ 14 ∧ v.a2 = 0) (fun w => w.a2 = 0) 14 (fun j v q => q.2.2.1)
    (fun j v ⟨e0, e3, ej, e2⟩ => by
      unfold gR23_0v1
      simp only [get_br, get_opt, get_leaf, e0]
      by_cases hj : v.a3 ≤ 14
      · left
        have hj' : j < 14 := by omega
        have hw4 : IntKind.i64.wrap (v.a3 + 1) = ((1 + (j + 1) : Nat) : Int) := by rw [w64 (by omega)]; omega
        simp only [hj, decide_true, cond_true, g32_eq l v.a3 hl, Option.bind_some, hw4, e2]
        cases ct l v.a3 with
        | true => exact ⟨_, rfl, rfl, rfl, by omega, by dsimp only; rw [w64 (by omega)]; rfl⟩
        | false => exact ⟨_, rfl, rfl, rfl, by omega, rfl⟩
      · right
        simp only [hj, decide_false, cond_false]
        exact ⟨v, rfl, e2⟩) 2000000 0 ⟨l, 0, 0, 1⟩ ⟨rfl, rfl, by omega, rfl⟩ (by omega)
  unfold g23_1 g23_1T
  simp only [get_opt, get_br, get_leaf, hw, Option.bind_some, cond_false, hq]
/-- Three are away. -/
def Tq : S3 := S3.mk 0 0 0 0 0 0 0 0 0 0 3 0 0 0 0 true
theorem add3 : g10_0 ⟨10, 3, S3.mk 0 0 0 0 0 0 0 0 0 0 0 0 0 0 0 true⟩ = some ⟨0, Tq⟩ := by kernel_rfl
theorem diffN : g25_0 ⟨Tn⟩ = some ⟨S7.mk 0 0 0 0 0 0 0 0 0 0 0 0 0 0 0⟩ := by kernel_rfl
theorem get3 : g11_0 ⟨Tq, 10⟩ = some ⟨3⟩ := by kernel_rfl
theorem sum3 : g23_0 ⟨Tq, [S1.mk 10, S1.mk 9]⟩ = some ⟨3⟩ := by kernel_rfl
theorem same0 : g21 [(S1.mk 0), (S1.mk 0), (S1.mk 0), (S1.mk 0), (S1.mk 0), (S1.mk 0), (S1.mk 0), (S1.mk 0), (S1.mk 0), (S1.mk 0), (S1.mk 0), (S1.mk 0), (S1.mk 0), (S1.mk 0), (S1.mk 0)] [(S1.mk 0), (S1.mk 0), (S1.mk 0), (S1.mk 0), (S1.mk 0), (S1.mk 0), (S1.mk 0), (S1.mk 0), (S1.mk 0), (S1.mk 0), (S1.mk 0), (S1.mk 0), (S1.mk 0), (S1.mk 0), (S1.mk 0)] = some true := by kernel_rfl
theorem loop3 (w n : Int) (L : List S1) (hL : L.length = 15) : ∃ v, iter gR7_2v1 2000000 ⟨w, n, false, 2, 0, Tq, L, Tn⟩ = some (false, v) ∧ v.a5 = Tq := by
  refine iter_inv (R := gR7_2v1) (fun j v => v.a4 = (j : Int) ∧ v.a6.length = 15 ∧ j ≤ 15 ∧ v.a5 = Tq) (fun v => v.a5 = Tq) 15 (fun j v q => q.2.2.1)
    (fun j v ⟨e4, e6, ej, e5⟩ => by
      unfold gR7_2v1
      simp only [get_br, get_opt, get_leaf, e6]
      by_cases hj : v.a4 < ((15 : Nat) : Int)
      · left
        have hj' : j < 15 := by omega
        have h0 : (0 : Int) ≤ v.a4 := by omega
        have hw4 : IntKind.i64.wrap (v.a4 + 1) = ((j + 1 : Nat) : Int) := by rw [w64 (by omega)]; omega
        have hg : v.a6[v.a4.toNat]? = some (v.a6[v.a4.toNat]'(by omega)) := List.getElem?_eq_getElem _
        simp only [hj, h0, decide_true, Bool.and_self, cond_true, hg, Option.bind_some, hw4]
        exact ⟨_, rfl, rfl, by simp [e6], by omega, e5⟩
      · right
        simp only [hj, decide_false, cond_false]
        exact ⟨v, rfl, e5⟩) 2000000 0 ⟨w, n, false, 2, 0, Tq, L, Tn⟩ ⟨rfl, hL, by omega, rfl⟩ (by omega)
theorem law7 (w n : Int) : g7 w n = some true := by
  obtain ⟨v, hv, hv5⟩ := loop3 w n [(S1.mk Tq.f0), (S1.mk Tq.f1), (S1.mk Tq.f2), (S1.mk Tq.f3), (S1.mk Tq.f4), (S1.mk Tq.f5), (S1.mk Tq.f6), (S1.mk Tq.f7), (S1.mk Tq.f8), (S1.mk Tq.f9), (S1.mk Tq.f10), (S1.mk Tq.f11), (S1.mk Tq.f12), (S1.mk Tq.f13), (S1.mk Tq.f14)] rfl
  have hn : (S3.mk 0 0 0 0 0 0 0 0 0 0 0 0 0 0 0 false) = Tn := rfl
  have hz : g25_2 V25_2.mk = ⟨S7.mk 0 0 0 0 0 0 0 0 0 0 0 0 0 0 0⟩ := by kernel_rfl
  have z0 : (IntKind.i64.wrap (0 + 0) != 0) = false := by decide
  have z1 : (IntKind.i64.wrap (IntKind.i64.wrap (0 + 0) + 0) != 0) = false := by decide
  have z2 : ((4 : Int) != 4) = false := by decide
  have z3 : ((0 : Int) != 0) = false := by decide
  have z4 : ((3 : Int) == 3) = true := by decide
  have z5 : Tn.f15 = false := rfl
  have z6 : Tq.f15 = true := rfl
  have hc : ∀ A : S3, (([(S1.mk A.f0), (S1.mk A.f1), (S1.mk A.f2), (S1.mk A.f3), (S1.mk A.f4), (S1.mk A.f5), (S1.mk A.f6), (S1.mk A.f7), (S1.mk A.f8), (S1.mk A.f9), (S1.mk A.f10), (S1.mk A.f11), (S1.mk A.f12), (S1.mk A.f13), (S1.mk A.f14)] : List S1).isEmpty || cloneB 1 8 [(S1.mk A.f0), (S1.mk A.f1), (S1.mk A.f2), (S1.mk A.f3), (S1.mk A.f4), (S1.mk A.f5), (S1.mk A.f6), (S1.mk A.f7), (S1.mk A.f8), (S1.mk A.f9), (S1.mk A.f10), (S1.mk A.f11), (S1.mk A.f12), (S1.mk A.f13), (S1.mk A.f14)]) = true := fun A => rfl
  unfold g7 g7T
  simp only [get_br, get_optS, get_leaf, hn, hz, sumNil [S1.mk w] (by simp), z0, Bool.not_false, cond_true, same0, Bool.not_true, cond_false, addN, z2, getN, z5, sumN [S1.mk w] (by simp), z1, diffN, add3, z3, z6]
  rw [hc Tq]
  simp only [cond_true, get_br, get_optS, get_leaf, hv, hv5, cond_false, get3, z4, sum3, awake]

end Ab22
