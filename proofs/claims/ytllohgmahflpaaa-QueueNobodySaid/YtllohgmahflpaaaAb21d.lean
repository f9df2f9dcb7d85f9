/- Seat 21: the plain law: any calls of a queue. -/
import Derived.Test.YtllohgmahflpaaaAb21c
set_option maxRecDepth 100000
set_option maxHeartbeats 4000000
set_option linter.unusedVariables false
set_option linter.unusedSimpArgs false
namespace Ab21
open Go Ab

/-- What is asked behind each call holds. -/
theorem len0 (cap : Nat) (Q : List (List S0)) : ((g10_0 ⟨cap, Q⟩).b0 != ((Q.map S2.mk).length : Int)) = false := by
  have h : (g10_0 ⟨cap, Q⟩).b0 = (Q.length : Int) := rfl
  rw [h, List.length_map]; simp
theorem room0 (cap : Nat) (Q : List (List S0)) : ((g11_0 ⟨cap, Q⟩).b0 != IntKind.i64.wrap ((cap : Int) - ((Q.map S2.mk).length : Int))) = false := by
  have h : (g11_0 ⟨cap, Q⟩).b0 = IntKind.i64.wrap ((cap : Int) - (Q.length : Int)) := rfl
  rw [h, List.length_map]; simp
theorem same0 {cap : Nat} {Q : List (List S0)} (h : Ok cap Q) : g13 (Q.map S2.mk) (Q.map S2.mk) = some true := same_self _ (by have := h.len; have := h.most; simp; omega)
theorem nil_ok {cap : Nat} {Q : List (List S0)} (h : Ok cap Q) : Ok cap [] := ⟨h.one, h.most, Nat.zero_le _, fun r hr => by simp at hr⟩

theorem loopRuns (cap : Nat) (hc : 1 ≤ cap ∧ cap ≤ 32) (l : List S1) : ∃ w, iter2 gR4_0v1 1000000 ⟨l, false, 0, (cap : Int), [], cap, []⟩ = some (.inl w) := by
  obtain ⟨w, hw, _⟩ := iter2_inv (R := gR4_0v1) (fun j v => v.a0 = l ∧ v.a2 = (j : Int) ∧ j ≤ 80 ∧ v.a3 = (cap : Int) ∧ v.a5 = cap ∧ ∃ Q, Ok cap Q ∧ v.a4 = Q.map S2.mk ∧ v.a6 = Q) (fun _ => True) 80 (fun j v q => q.2.2.1)
    (fun j v ⟨e0, e2, ej, e3, e5, Q, hQ, e4, e6⟩ => by
      unfold gR4_0v1
      simp only [get_br, get_opt, get_leaf, get_fail, e0, e2, e3, e5, e4, e6]
      by_cases hj : j < l.length ∧ j < 80
      · left
        have h1 : decide ((j : Int) < (l.length : Int)) = true := by simp; omega
        have h2 : decide ((j : Int) < 80) = true := by simp; omega
        have h0 : decide ((0 : Int) ≤ (j : Int)) = true := by simp
        have hwj : IntKind.i64.wrap ((j : Int) + 1) = ((j + 1 : Nat) : Int) := by rw [w64 (by omega)]; omega
        have hg : l[Int.toNat (j : Int)]? = some l[j] := by simp [List.getElem?_eq_getElem hj.1]
        have hm := mn_ok l[j].f1.length 2100 (by omega)
        have hbl : (List.take (Int.toNat (mnI (l[j].f1.length : Int) 2100)) l[j].f1).length ≤ 2100 := by
          simp only [List.length_take]; omega
        simp only [h1, h2, h0, cond_true, hg, Option.bind_some, hm.1]
        generalize List.take (Int.toNat (mnI (l[j].f1.length : Int) 2100)) l[j].f1 = b at hbl
        have hP := put_ok (b := b) hQ
        have hoth : ([(S0.mk 111), (S0.mk 116), (S0.mk 104), (S0.mk 101), (S0.mk 114)] : List S0).length ≤ 2100 := by simp
        have z0 : ((g10_0 ⟨cap, []⟩).b0 != 0) = false := len0 cap []
        have z1 : ((g11_0 ⟨cap, []⟩).b0 != IntKind.i64.wrap ((cap : Int) - 0)) = false := room0 cap []
        have z2 : g13 [] [] = some true := same0 (nil_ok hQ)
        cases c1 : (l[j].f0 == 1) with
        | true =>
          simp only [cond_true, put_eq hbl, ref_put hQ hbl, Option.bind_some, ne_self, cond_false, len0, room0, Bool.not_false, all_eq hP, same0 hP, Bool.not_true, hwj]
          exact ⟨_, rfl, rfl, rfl, by omega, rfl, rfl, _, hP, rfl, rfl⟩
        | false =>
        cases c2 : (l[j].f0 == 2) with
        | true =>
          simp only [cond_true, cond_false, put_eq hbl, ref_put hQ hbl, Option.bind_some, ne_self, len0, room0, Bool.not_false, all_eq hP, same0 hP, Bool.not_true, hwj]
          exact ⟨_, rfl, rfl, rfl, by omega, rfl, rfl, _, hP, rfl, rfl⟩
        | false =>
        cases c3 : (l[j].f0 == 3) with
        | true =>
          have hT := tail_ok hQ
          have hbb : (!((!Q.isEmpty) == (!Q.isEmpty))) = false := by simp
          simp only [cond_true, cond_false, take_eq, ref_take hQ, Option.bind_some, ba_rfl, Bool.not_true, hbb, len0, room0, Bool.not_false, all_eq hT, same0 hT, hwj]
          exact ⟨_, rfl, rfl, rfl, by omega, rfl, rfl, _, hT, rfl, rfl⟩
        | false =>
        cases c4 : (l[j].f0 == 4) with
        | true =>
          have hN := nil_ok hQ
          have hle : ((Q.length : Int) != ((Q.map S2.mk).length : Int)) = false := by simp
          simp only [cond_true, cond_false, clear_all hQ, Option.bind_some, hle, z0, z1, z2, Bool.not_false, all_eq hN, List.map_nil, Bool.not_true, hwj]
          exact ⟨_, rfl, rfl, rfl, by omega, rfl, rfl, _, hN, rfl, rfl⟩
        | false =>
        cases c5 : (l[j].f0 == 5) with
        | true =>
          simp only [cond_true, cond_false, fork_eq hQ, put_eq0 hoth, take_eq, Option.bind_some, len0, room0, Bool.not_false, all_eq hQ, same0 hQ, Bool.not_true, hwj]
          exact ⟨_, rfl, rfl, rfl, by omega, rfl, rfl, _, hQ, rfl, rfl⟩
        | false =>
          simp only [cond_false, Option.bind_some, len0, room0, Bool.not_false, cond_true, all_eq hQ, same0 hQ, Bool.not_true, hwj]
          exact ⟨_, rfl, rfl, rfl, by omega, rfl, rfl, _, hQ, rfl, rfl⟩
      · right
        have hcond : (bif (bif decide ((j : Int) < (l.length : Int)) then decide ((j : Int) < 80) else false) then true else false) = false := by
          by_cases a : j < l.length
          · have b : ¬ j < 80 := fun b => hj ⟨a, b⟩
            have : decide ((j : Int) < 80) = false := by simp; omega
            rw [this]; cases decide ((j : Int) < (l.length : Int)) <;> rfl
          · have : decide ((j : Int) < (l.length : Int)) = false := by simp; omega
            rw [this]; rfl
        rw [hcond]
        exact ⟨v, rfl, trivial⟩) 1000000 0 ⟨l, false, 0, (cap : Int), [], cap, []⟩ ⟨rfl, rfl, by omega, rfl, rfl, [], ⟨hc.1, hc.2, Nat.zero_le _, fun r hr => by simp at hr⟩, rfl, rfl⟩ (by omega)
  exact ⟨w, hw⟩

theorem loopNone (l : List S1) (a : Int) (m : List S2) : ∃ w, iter2 gR4_0 1000000 ⟨l, false, 0, a, m⟩ = some (.inl w) := by
  have h : (gR4_0 ⟨l, false, 0, a, m⟩).get? = some (.inr (.inl ⟨l, false, 0, a, m⟩)) := by
    have hc : ∀ b : Bool, (bif b then false else false) = false := fun b => by cases b <;> rfl
    unfold gR4_0
    rw [get_br, hc]
    rfl
  refine ⟨⟨l, false, 0, a, m⟩, ?_⟩
  unfold iter2
  rw [h]

theorem law4 (x : Int) (l : List S1) : g4 x l = some true := by
  unfold g4 g4T
  by_cases h : x < 1 ∨ x > 32
  · have hc : (bif (decide (x < 1)) then true else (decide (x > 32))) = true := by
      rcases h with h | h
      · simp [h]
      · by_cases a : x < 1
        · simp [a]
        · simp [a, h]
    have h14 : g14 x = (⟨0, []⟩, 210) := by
      unfold g14 g14T
      simp only [Tr.get, hc, cond_true]
    obtain ⟨w, hw⟩ := loopNone l 0 []
    have z : (!(bif ((210 : Int) != 210) then true else (!(false == ((210 : Int) == 0))))) = true := by decide
    simp only [get_br, get_opt, get_leaf, hc, cond_true, h14, z, awake, Option.bind_some, Bool.not_true, cond_false, hw, Sum.isRight_inl, Sum.getLeft?_inl]
  · have hc : (bif (decide (x < 1)) then true else (decide (x > 32))) = false := by
      have a : ¬ x < 1 := fun a => h (.inl a)
      have b : ¬ x > 32 := fun b => h (.inr b)
      simp [a, b]
    have h14 : g14 x = (⟨x, []⟩, 0) := by
      unfold g14 g14T
      simp only [Tr.get, hc, cond_false]
    obtain ⟨cap, rfl⟩ : ∃ cap : Nat, x = cap := ⟨x.toNat, by omega⟩
    obtain ⟨w, hw⟩ := loopRuns cap (by omega) l
    have hm : (decide (0 ≤ (cap : Int)) && decide ((cap : Int) ≤ 9223372036854775807) && decide ((24 : Int) * (cap : Int) ≤ 281474976710544) && Nat.ble 1 1) = true := by
      simp only [Bool.and_eq_true, decide_eq_true_eq]
      refine ⟨⟨⟨by omega, by omega⟩, by omega⟩, rfl⟩
    have z : (!(bif ((0 : Int) != 0) then true else (!(true == ((0 : Int) == 0))))) = true := by decide
    simp only [get_br, get_opt, get_leaf, hc, cond_false, hm, cond_true, h14, z, awake, Option.bind_some, Bool.not_true, Int.toNat_natCast, hw, Sum.isRight_inl, Sum.getLeft?_inl]

end Ab21
