/- Seat 25: the plain law: what is put is copied, what is told is one's own. -/
import Derived.Test.YtdflhpknkcjfpaaAb25ob
import Derived.Test.YtdflhpknkcjfpaaAbArith
set_option maxRecDepth 100000
set_option maxHeartbeats 4000000
set_option linter.unusedVariables false
set_option linter.unusedSimpArgs false
namespace Ab25o
open Go Ab

theorem w64 {n : Int} (h : -9223372036854775808 ≤ n ∧ n ≤ 9223372036854775807) : IntKind.i64.wrap n = n := by
  rw [wr_i64]; split <;> omega
theorem awake : g8 = some true := by kernel_rfl
theorem ba_rfl (a : ByteArray) : (a == a) = true := by
  cases a
  show ByteArray.beq _ _ = true
  unfold ByteArray.beq
  simp

theorem loop1 (b : List S0) (hb : b.length ≤ 100) (s : ByteArray) : ∃ w, iter gR4_0v1 1000000 ⟨false, s, 0, b, true, false, ⟨b⟩, ⟨b⟩⟩ = some (false, w) ∧ w.a1 = s ∧ w.a4 = true ∧ w.a5 = false ∧ w.a6 = ⟨b⟩ ∧ w.a7 = ⟨b⟩ ∧ w.a3.length = b.length := by
  obtain ⟨w, hw, hq⟩ := iter_inv (R := gR4_0v1) (fun j v => v.a2 = (j : Int) ∧ v.a3.length = b.length ∧ j ≤ b.length ∧ v.a1 = s ∧ v.a4 = true ∧ v.a5 = false ∧ v.a6 = ⟨b⟩ ∧ v.a7 = ⟨b⟩)
    (fun w => w.a1 = s ∧ w.a4 = true ∧ w.a5 = false ∧ w.a6 = ⟨b⟩ ∧ w.a7 = ⟨b⟩ ∧ w.a3.length = b.length) b.length (fun j v q => q.2.2.1)
    (fun j v ⟨e2, e3, ej, e1, e4, e5, e6, e7⟩ => by
      unfold gR4_0v1
      simp only [get_br, get_opt, get_leaf, e3]
      by_cases hj : v.a2 < (b.length : Int)
      · left
        have hj' : j < b.length := by omega
        have h0 : (0 : Int) ≤ v.a2 := by omega
        have hw4 : IntKind.i64.wrap (v.a2 + 1) = ((j + 1 : Nat) : Int) := by rw [w64 (by omega)]; omega
        have hg : v.a3[v.a2.toNat]? = some (v.a3[v.a2.toNat]'(by omega)) := List.getElem?_eq_getElem _
        simp only [hj, h0, decide_true, Bool.and_self, cond_true, hg, Option.bind_some, hw4]
        exact ⟨_, rfl, rfl, by simp [e3], by omega, e1, e4, e5, e6, e7⟩
      · right
        simp only [hj, decide_false, cond_false]
        exact ⟨v, rfl, e1, e4, e5, e6, e7, e3⟩) 1000000 0 ⟨false, s, 0, b, true, false, ⟨b⟩, ⟨b⟩⟩ ⟨rfl, rfl, by omega, rfl, rfl, rfl, rfl, rfl⟩ (by omega)
  exact ⟨w, hw, hq⟩

theorem loop2 (b c : List S0) (hb : b.length ≤ 100) (hc : c.length = b.length) (s : ByteArray) (z : Bool) (y : Int) : ∃ w, iter gR4_2v7 1000000 ⟨z, s, y, 0, c, true, false, ⟨b⟩, ⟨b⟩, b, b⟩ = some (false, w) ∧ w.a1 = s ∧ w.a5 = true ∧ w.a7 = ⟨b⟩ ∧ w.a8 = ⟨b⟩ := by
  obtain ⟨w, hw, hq⟩ := iter_inv (R := gR4_2v7) (fun j v => v.a3 = (j : Int) ∧ v.a4.length = b.length ∧ v.a9.length = b.length ∧ v.a10.length = b.length ∧ j ≤ b.length ∧ v.a1 = s ∧ v.a5 = true ∧ v.a7 = ⟨b⟩ ∧ v.a8 = ⟨b⟩)
    (fun w => w.a1 = s ∧ w.a5 = true ∧ w.a7 = ⟨b⟩ ∧ w.a8 = ⟨b⟩) b.length (fun j v q => q.2.2.2.2.1)
    (fun j v ⟨e3, e4, e9, e10, ej, e1, e5, e7, e8⟩ => by
      unfold gR4_2v7
      simp only [get_br, get_opt, get_leaf, e4, e9, e10]
      by_cases hj : v.a3 < (b.length : Int)
      · left
        have hj' : j < b.length := by omega
        have h0 : (0 : Int) ≤ v.a3 := by omega
        have hw4 : IntKind.i64.wrap (v.a3 + 1) = ((j + 1 : Nat) : Int) := by rw [w64 (by omega)]; omega
        have hg : v.a9[v.a3.toNat]? = some (v.a9[v.a3.toNat]'(by omega)) := List.getElem?_eq_getElem _
        have hg2 : v.a10[v.a3.toNat]? = some (v.a10[v.a3.toNat]'(by omega)) := List.getElem?_eq_getElem _
        simp only [hj, h0, decide_true, Bool.and_self, cond_true, hg, hg2, Option.bind_some, hw4]
        exact ⟨_, rfl, rfl, e4, by simp [e9], by simp [e10], by omega, e1, e5, e7, e8⟩
      · right
        simp only [hj, decide_false, cond_false]
        exact ⟨v, rfl, e1, e5, e7, e8⟩) 1000000 0 ⟨z, s, y, 0, c, true, false, ⟨b⟩, ⟨b⟩, b, b⟩ ⟨rfl, hc, rfl, rfl, by omega, rfl, rfl, rfl, rfl⟩ (by omega)
  exact ⟨w, hw, hq⟩

theorem law4 (x : List S0) : g4 x = some true := by
  have hm : 0 ≤ mnI (x.length : Int) 100 ∧ mnI (x.length : Int) 100 ≤ x.length ∧ mnI (x.length : Int) 100 ≤ 100 := by
    unfold mnI; split <;> omega
  have hlen : (List.take (Int.toNat (mnI (x.length : Int) 100)) x).length ≤ 100 := by
    simp only [List.length_take]; omega
  unfold g4 g4T
  generalize List.take (Int.toNat (mnI (x.length : Int) 100)) x = b at hlen
  simp only [get_br, hm.1, hm.2.1, decide_true, Bool.and_self, cond_true]
  cases b with
  | nil =>
    change _ = some true
    kernel_rfl
  | cons q r =>
    obtain ⟨w, hw, w1, w4, w5, w6, w7, w3⟩ := loop1 (q :: r) hlen (strO 0 (q :: r))
    obtain ⟨u, hu, u1, u5, u7, u8⟩ := loop2 (q :: r) w.a3 hlen w3 (strO 0 (q :: r)) w.a0 w.a2
    have hcl : cloneB 0 1 (q :: r) = true := by
      unfold cloneB
      simp only [Bool.and_eq_true, Nat.ble_eq, List.length_nil]
      have : (q :: r : List S0).length ≤ 100 := hlen
      constructor
      · show 0 + (q :: r : List S0).length ≤ _; omega
      · show (0 + (q :: r : List S0).length) * 1 ≤ _; omega
    have c1 : (([] : List S2).isEmpty || cloneB 2 24 ([] : List S2)) = true := rfl
    have c2 : ∀ y : S2, ([y].isEmpty || cloneB 2 24 [y]) = true := fun y => rfl
    have c3 : ∀ y : S2, (decide (0 ≤ 0) && decide (0 ≤ 1) && decide (1 ≤ ([y].length : Int)) && Nat.blt 0 [y].length) = true := fun y => by simp
    have c4 : (q :: r).isEmpty = false := rfl
    have c5 : (Nat.ble (0 + (q :: r).length) 140737488355328 && Nat.ble ((0 + (q :: r).length) * 1) 140737488355328) = true := by
      simp only [Bool.and_eq_true, Nat.ble_eq]; omega
    have c6 : decide (((q :: r).length : Int) > 2048) = false := by simp only [decide_eq_false_iff_not]; omega
    simp only [c4, cond_false, get_br, c5, cond_true, c6, c1, hcl, Bool.or_true, get_optS, hw, w1, w4, w5, w6, w7, Bool.not_true, Bool.not_false, hu, u1, u5, u7, u8, c2, c3, get_leaf, ba_rfl, awake]

end Ab25o
