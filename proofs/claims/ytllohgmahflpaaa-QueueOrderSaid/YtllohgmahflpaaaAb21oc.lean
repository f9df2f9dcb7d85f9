/- Seat 21: the plain law: the order of a queue. -/
import Derived.Test.YtllohgmahflpaaaAb21ob
import Derived.Test.YtllohgmahflpaaaAbArith
set_option maxRecDepth 100000
set_option maxHeartbeats 4000000
set_option linter.unusedVariables false
set_option linter.unusedSimpArgs false
namespace Ab21o
open Go Ab

theorem w64 {n : Int} (h : -9223372036854775808 ≤ n ∧ n ≤ 9223372036854775807) : IntKind.i64.wrap n = n := by
  rw [wr_i64]; split <;> omega
theorem awake : g7 = some true := by kernel_rfl
theorem ba_rfl (a : ByteArray) : (a == a) = true := by
  cases a
  show ByteArray.beq _ _ = true
  unfold ByteArray.beq
  simp

theorem mn_ok (n : Nat) (m : Int) (hm : 0 ≤ m) : (decide (0 ≤ mnI (n : Int) m) && decide (mnI (n : Int) m ≤ (n : Int))) = true ∧ mnI (n : Int) m ≤ m := by
  unfold mnI
  constructor
  · simp only [Bool.and_eq_true, decide_eq_true_eq]; split <;> omega
  · split <;> omega

/-- A frame put. -/
def putQ (cap : Nat) (Q : List (List S0)) (b : List S0) : Int × List (List S0) := if b.length > 2048 then (2, Q) else if Q.length < cap then (0, Q ++ [b]) else (71, Q)

structure Ok (cap : Nat) (Q : List (List S0)) : Prop where
  one : 1 ≤ cap
  most : cap ≤ 32
  len : Q.length ≤ cap
  rows : ∀ r ∈ Q, r.length ≤ 2048

theorem clone_b {b : List S0} (hb : b.length ≤ 2100) : (b.isEmpty || cloneB 0 1 b) = true := by
  have : cloneB 0 1 b = true := by
    unfold cloneB
    simp only [Bool.and_eq_true, Nat.ble_eq]
    constructor
    · show 0 + b.length ≤ _; omega
    · show (0 + b.length) * 1 ≤ _; omega
  rw [this, Bool.or_true]

theorem put_eq {cap : Nat} {Q : List (List S0)} {b : List S0} (hb : b.length ≤ 2100) : g9_1 ⟨b, cap, Q⟩ = some ⟨(putQ cap Q b).1, (putQ cap Q b).2⟩ := by
  unfold g9_1 g9_1T putQ
  simp only [get_br, get_leaf, clone_b hb, cond_true]
  by_cases h1 : b.length > 2048
  · have h2 : ((b.length : Int) > 2048) := by omega
    simp [h1, h2]
  · have h2 : ¬ ((b.length : Int) > 2048) := by omega
    by_cases h3 : Q.length < cap
    · simp [h1, h2, h3]
    · simp [h1, h2, h3]
theorem put_nil {cap : Nat} {Q : List (List S0)} : g9_2 ⟨cap, Q⟩ = some ⟨(putQ cap Q []).1, (putQ cap Q []).2⟩ := by
  unfold g9_2 g9_2T putQ
  have h0 : (([] : List S0).isEmpty || cloneB 0 1 ([] : List S0)) = true := rfl
  simp only [get_br, get_leaf, h0, cond_true]
  by_cases h3 : Q.length < cap
  · simp [h3]
  · simp [h3]
theorem put_yes {cap : Nat} {Q : List (List S0)} {b : List S0} (hb : b.length ≤ 2048) (h : Q.length < cap) : putQ cap Q b = (0, Q ++ [b]) := by
  unfold putQ; rw [if_neg (by omega), if_pos h]
theorem put_no {cap : Nat} {Q : List (List S0)} {b : List S0} (hb : b.length ≤ 2048) (h : ¬ Q.length < cap) : putQ cap Q b = (71, Q) := by
  unfold putQ; rw [if_neg (by omega), if_neg h]
theorem app_ok {cap : Nat} {Q : List (List S0)} {b : List S0} (h : Ok cap Q) (hb : b.length ≤ 2048) (hl : Q.length < cap) : Ok cap (Q ++ [b]) := by
  refine ⟨h.one, h.most, by simp; omega, fun r hr => ?_⟩
  rcases List.mem_append.mp hr with hr | hr
  · exact h.rows r hr
  · simp at hr; subst hr; omega
theorem tail_ok {cap : Nat} {q : List S0} {Q : List (List S0)} (h : Ok cap (q :: Q)) : Ok cap Q := ⟨h.one, h.most, by have := h.len; simp at this; omega, fun r hr => h.rows r (List.mem_cons_of_mem _ hr)⟩

theorem all_eq {cap : Nat} {Q : List (List S0)} (h : Ok cap Q) : g12_0 ⟨cap, Q⟩ = some ⟨cap, Q, Q⟩ := by
  have hl := h.len
  have hm := h.most
  have hw : iter gR12_0n2 1000000 ⟨(Q.length : Int), 0, cap, Q, []⟩ = some (false, ⟨(Q.length : Int), (Q.length : Int), cap, Q, Q⟩) := by
    refine iter_all (R := gR12_0n2) (fun j => ⟨(Q.length : Int), (j : Int), cap, Q.drop j ++ Q.take j, Q.take j⟩) Q.length (fun j hj => ?_) (o := (false, ⟨(Q.length : Int), (Q.length : Int), cap, Q, Q⟩)) ?_ (by omega) (by simp)
    · have hd : Q.drop j = Q[j] :: Q.drop (j + 1) := List.drop_eq_getElem_cons hj
      have htk : Q.take (j + 1) = Q.take j ++ [Q[j]] := by rw [List.take_add_one, List.getElem?_eq_getElem hj]; rfl
      have hr : Q[j].length ≤ 2048 := h.rows _ (List.getElem_mem hj)
      have hp : putQ cap (Q.drop (j + 1) ++ Q.take j) Q[j] = (0, (Q.drop (j + 1) ++ Q.take j) ++ [Q[j]]) := put_yes hr (by simp; omega)
      have hb : (Nat.ble ((Q.take j).length + 1) 140737488355328 && Nat.ble (((Q.take j).length + 1) * 24) 140737488355328) = true := by
        simp only [List.length_take, Bool.and_eq_true, Nat.ble_eq]
        omega
      have hjl : decide ((j : Int) < (Q.length : Int)) = true := by simp; omega
      have hwj : IntKind.i64.wrap ((j : Int) + 1) = ((j + 1 : Nat) : Int) := by rw [w64 (by omega)]; omega
      unfold gR12_0n2
      simp only [get_br, get_opt, get_leaf, hjl, cond_true, hd, List.cons_append, List.isEmpty_cons, cond_false, List.head?_cons, List.tail_cons, Option.bind_some, hb, put_eq (show Q[j].length ≤ 2100 by omega), hp, hwj, htk, List.append_assoc]
    · unfold gR12_0n2
      simp [get_br, get_opt, get_leaf]
  unfold g12_0 g12_0T
  simp only [get_br, get_opt, get_leaf]
  have h10 : (g10_0 ⟨cap, Q⟩).b0 = (Q.length : Int) := rfl
  rw [h10, hw]
  rfl

theorem same_self (l : List S2) (hl : l.length ≤ 100) : g13 l l = some true := by
  obtain ⟨w, hw, _⟩ := iter2_inv (R := gR13_0) (fun j v => v.a0 = l ∧ v.a1 = l ∧ v.a3 = (j : Int) ∧ j ≤ l.length) (fun _ => True) 100 (fun j v q => by omega)
    (fun j v ⟨e0, e1, e3, ej⟩ => by
      unfold gR13_0
      simp only [get_br, get_opt, get_leaf, get_fail, e0, e1, e3]
      by_cases hj : (j : Int) < (l.length : Int)
      · left
        have hp : (0 : Int) ≤ (j : Int) := by omega
        have hwj : IntKind.i64.wrap ((j : Int) + 1) = ((j + 1 : Nat) : Int) := by rw [w64 (by omega)]; omega
        simp only [hj, decide_true, cond_true, hp, Int.toNat_natCast, List.getElem?_eq_getElem (show j < l.length by omega), Option.bind_some, ba_rfl, Bool.not_true, cond_false, hwj]
        exact ⟨_, rfl, rfl, rfl, rfl, by omega⟩
      · right
        simp only [hj, decide_false, cond_false]
        exact ⟨v, rfl, trivial⟩) 1000000 0 ⟨l, l, false, 0⟩ ⟨rfl, rfl, rfl, by omega⟩ (by omega)
  unfold g13 g13T
  have hn : ((l.length : Int) != (l.length : Int)) = false := by simp
  simp only [get_br, get_opt, get_leaf, hn, cond_false, hw, Option.bind_some, Sum.isRight_inl, Sum.getLeft?_inl]

theorem len_le {cap : Nat} {Q : List (List S0)} (h : Ok cap Q) : (decide ((g10_0 ⟨cap, Q⟩).b0 > (cap : Int))) = false := by
  have h1 : (g10_0 ⟨cap, Q⟩).b0 = (Q.length : Int) := rfl
  have := h.len
  rw [h1]; simp; omega
theorem len_room {cap : Nat} {Q : List (List S0)} (h : Ok cap Q) : (IntKind.i64.wrap ((g10_0 ⟨cap, Q⟩).b0 + (g11_0 ⟨cap, Q⟩).b0) != (cap : Int)) = false := by
  have h1 : (g10_0 ⟨cap, Q⟩).b0 = (Q.length : Int) := rfl
  have h2 : (g11_0 ⟨cap, Q⟩).b0 = IntKind.i64.wrap ((cap : Int) - (Q.length : Int)) := rfl
  have := h.len
  have := h.most
  have h3 : IntKind.i64.wrap ((cap : Int) - (Q.length : Int)) = (cap : Int) - (Q.length : Int) := w64 (by omega)
  rw [h1, h2, h3, w64 (by omega)]
  have : (Q.length : Int) + ((cap : Int) - (Q.length : Int)) = (cap : Int) := by omega
  rw [this]; simp

theorem loop6 (l : List S1) (n i : Int) (want : List S2) (cap : Nat) (Q LL0 : List (List S0)) (k m : Nat) (hk : (LL0.map (·.length))[k]? = some m) (hm : m ≤ 5000) :
    ∃ (LL' : List (List S0)) (j' : Int), iter gR3_6 1000000 ⟨l, false, n, i, (k : Int), 0, want, LL0, cap, Q⟩ = some (false, ⟨l, false, n, i, (k : Int), j', want, LL', cap, Q⟩) ∧ LL'.map (·.length) = LL0.map (·.length) := by
  obtain ⟨w, hw, LL', j', rfl, h⟩ := iter_inv (R := gR3_6) (fun j v => ∃ LL', v = ⟨l, false, n, i, (k : Int), (j : Int), want, LL', cap, Q⟩ ∧ LL'.map (·.length) = LL0.map (·.length) ∧ j ≤ m)
    (fun w => ∃ (LL' : List (List S0)) (j' : Int), w = ⟨l, false, n, i, (k : Int), j', want, LL', cap, Q⟩ ∧ LL'.map (·.length) = LL0.map (·.length)) m (fun j v ⟨_, _, _, q⟩ => q)
    (fun j v ⟨LL', e, hl, hj⟩ => by
      subst e
      have hk' : (LL'.map (·.length))[k]? = some m := by rw [hl]; exact hk
      rw [List.getElem?_map] at hk'
      obtain ⟨y, hy, hym⟩ := Option.map_eq_some_iff.mp hk'
      have hkl : k < LL'.length := (List.getElem?_eq_some_iff.mp hy).1
      have h1 : (decide (0 ≤ (k : Int)) && decide ((k : Int) < (LL'.length : Int))) = true := by simp; omega
      unfold gR3_6
      simp only [get_br, get_opt, get_leaf, get_fail, h1, cond_true, Int.toNat_natCast, hy, Option.bind_some]
      by_cases hjm : j < m
      · left
        have h2 : decide ((j : Int) < (y.length : Int)) = true := by simp; omega
        have h3 : (decide (0 ≤ (j : Int)) && decide ((j : Int) < (y.length : Int))) = true := by simp; omega
        have hwj : IntKind.i64.wrap ((j : Int) + 1) = ((j + 1 : Nat) : Int) := by rw [w64 (by omega)]; omega
        have hyj : y[j]? = some (y[j]'(by omega)) := List.getElem?_eq_getElem (by omega)
        simp only [h2, h3, cond_true, hyj, Option.bind_some, hwj]
        exact ⟨_, rfl, _, rfl, by rw [lens_set hy]; exact hl, by omega⟩
      · right
        have h2 : decide ((j : Int) < (y.length : Int)) = false := by simp; omega
        simp only [h2, cond_false]
        exact ⟨_, rfl, _, _, rfl, hl⟩) 1000000 0 ⟨l, false, n, i, (k : Int), 0, want, LL0, cap, Q⟩ ⟨LL0, rfl, rfl, Nat.zero_le _⟩ (by omega)
  exact ⟨LL', j', hw, h⟩

theorem loop4 (l : List S1) (n i : Int) (want : List S2) (cap : Nat) (Q LL0 : List (List S0)) (hlen : LL0.length ≤ 100) (hm : ∀ r ∈ LL0, r.length ≤ 5000) :
    ∃ (LL' : List (List S0)) (k' : Int), iter gR3_4 1000000 ⟨l, false, n, i, 0, want, LL0, cap, Q⟩ = some (false, ⟨l, false, n, i, k', want, LL', cap, Q⟩) := by
  obtain ⟨w, hw, LL', k', rfl⟩ := iter_inv (R := gR3_4) (fun k v => ∃ LL', v = ⟨l, false, n, i, (k : Int), want, LL', cap, Q⟩ ∧ LL'.map (·.length) = LL0.map (·.length) ∧ k ≤ LL0.length)
    (fun w => ∃ (LL' : List (List S0)) (k' : Int), w = ⟨l, false, n, i, k', want, LL', cap, Q⟩) LL0.length (fun j v ⟨_, _, _, q⟩ => q)
    (fun k v ⟨LL', e, hl, hk⟩ => by
      subst e
      have hll : LL'.length = LL0.length := by have := congrArg List.length hl; simpa using this
      unfold gR3_4
      by_cases hkl : k < LL0.length
      · left
        have h1 : decide ((k : Int) < (LL'.length : Int)) = true := by simp; omega
        have hwk : IntKind.i64.wrap ((k : Int) + 1) = ((k + 1 : Nat) : Int) := by rw [w64 (by omega)]; omega
        obtain ⟨LL2, j2, h6, h6l⟩ := loop6 l n i want cap Q LL' k (LL0[k].length) (by rw [hl, List.getElem?_map, List.getElem?_eq_getElem hkl]; rfl) (hm _ (List.getElem_mem hkl))
        simp only [get_br, get_opt, get_leaf, get_fail, h1, cond_true, h6, Option.bind_some, cond_false, hwk]
        exact ⟨_, rfl, LL2, rfl, h6l.trans hl, by omega⟩
      · right
        have h1 : decide ((k : Int) < (LL'.length : Int)) = false := by simp; omega
        simp only [get_br, get_opt, get_leaf, get_fail, h1, cond_false]
        exact ⟨_, rfl, _, _, rfl⟩) 1000000 0 ⟨l, false, n, i, 0, want, LL0, cap, Q⟩ ⟨LL0, rfl, rfl, Nat.zero_le _⟩ (by omega)
  exact ⟨LL', k', hw⟩

theorem loop6v1 (l : List S1) (n i : Int) (e4 : Int) (want : List S2) (cap : Nat) (Q LL0 : List (List S0)) (k m : Nat) (hk : (LL0.map (·.length))[k]? = some m) (hm : m ≤ 5000) :
    ∃ (LL' : List (List S0)) (j' : Int), iter gR3_6v1 1000000 ⟨l, false, n, i, e4, (k : Int), 0, want, LL0, cap, Q⟩ = some (false, ⟨l, false, n, i, e4, (k : Int), j', want, LL', cap, Q⟩) ∧ LL'.map (·.length) = LL0.map (·.length) := by
  obtain ⟨w, hw, LL', j', rfl, h⟩ := iter_inv (R := gR3_6v1) (fun j v => ∃ LL', v = ⟨l, false, n, i, e4, (k : Int), (j : Int), want, LL', cap, Q⟩ ∧ LL'.map (·.length) = LL0.map (·.length) ∧ j ≤ m)
    (fun w => ∃ (LL' : List (List S0)) (j' : Int), w = ⟨l, false, n, i, e4, (k : Int), j', want, LL', cap, Q⟩ ∧ LL'.map (·.length) = LL0.map (·.length)) m (fun j v ⟨_, _, _, q⟩ => q)
    (fun j v ⟨LL', e, hl, hj⟩ => by
      subst e
      have hk' : (LL'.map (·.length))[k]? = some m := by rw [hl]; exact hk
      rw [List.getElem?_map] at hk'
      obtain ⟨y, hy, hym⟩ := Option.map_eq_some_iff.mp hk'
      have hkl : k < LL'.length := (List.getElem?_eq_some_iff.mp hy).1
      have h1 : (decide (0 ≤ (k : Int)) && decide ((k : Int) < (LL'.length : Int))) = true := by simp; omega
      unfold gR3_6v1
      simp only [get_br, get_opt, get_leaf, get_fail, h1, cond_true, Int.toNat_natCast, hy, Option.bind_some]
      by_cases hjm : j < m
      · left
        have h2 : decide ((j : Int) < (y.length : Int)) = true := by simp; omega
        have h3 : (decide (0 ≤ (j : Int)) && decide ((j : Int) < (y.length : Int))) = true := by simp; omega
        have hwj : IntKind.i64.wrap ((j : Int) + 1) = ((j + 1 : Nat) : Int) := by rw [w64 (by omega)]; omega
        have hyj : y[j]? = some (y[j]'(by omega)) := List.getElem?_eq_getElem (by omega)
        simp only [h2, h3, cond_true, hyj, Option.bind_some, hwj]
        exact ⟨_, rfl, _, rfl, by rw [lens_set hy]; exact hl, by omega⟩
      · right
        have h2 : decide ((j : Int) < (y.length : Int)) = false := by simp; omega
        simp only [h2, cond_false]
        exact ⟨_, rfl, _, _, rfl, hl⟩) 1000000 0 ⟨l, false, n, i, e4, (k : Int), 0, want, LL0, cap, Q⟩ ⟨LL0, rfl, rfl, Nat.zero_le _⟩ (by omega)
  exact ⟨LL', j', hw, h⟩

theorem loop4v1 (l : List S1) (n i : Int) (e4 : Int) (want : List S2) (cap : Nat) (Q LL0 : List (List S0)) (hlen : LL0.length ≤ 100) (hm : ∀ r ∈ LL0, r.length ≤ 5000) :
    ∃ (LL' : List (List S0)) (k' : Int), iter gR3_4v1 1000000 ⟨l, false, n, i, e4, 0, want, LL0, cap, Q⟩ = some (false, ⟨l, false, n, i, e4, k', want, LL', cap, Q⟩) := by
  obtain ⟨w, hw, LL', k', rfl⟩ := iter_inv (R := gR3_4v1) (fun k v => ∃ LL', v = ⟨l, false, n, i, e4, (k : Int), want, LL', cap, Q⟩ ∧ LL'.map (·.length) = LL0.map (·.length) ∧ k ≤ LL0.length)
    (fun w => ∃ (LL' : List (List S0)) (k' : Int), w = ⟨l, false, n, i, e4, k', want, LL', cap, Q⟩) LL0.length (fun j v ⟨_, _, _, q⟩ => q)
    (fun k v ⟨LL', e, hl, hk⟩ => by
      subst e
      have hll : LL'.length = LL0.length := by have := congrArg List.length hl; simpa using this
      unfold gR3_4v1
      by_cases hkl : k < LL0.length
      · left
        have h1 : decide ((k : Int) < (LL'.length : Int)) = true := by simp; omega
        have hwk : IntKind.i64.wrap ((k : Int) + 1) = ((k + 1 : Nat) : Int) := by rw [w64 (by omega)]; omega
        obtain ⟨LL2, j2, h6, h6l⟩ := loop6v1 l n i e4 want cap Q LL' k (LL0[k].length) (by rw [hl, List.getElem?_map, List.getElem?_eq_getElem hkl]; rfl) (hm _ (List.getElem_mem hkl))
        simp only [get_br, get_opt, get_leaf, get_fail, h1, cond_true, h6, Option.bind_some, cond_false, hwk]
        exact ⟨_, rfl, LL2, rfl, h6l.trans hl, by omega⟩
      · right
        have h1 : decide ((k : Int) < (LL'.length : Int)) = false := by simp; omega
        simp only [get_br, get_opt, get_leaf, get_fail, h1, cond_false]
        exact ⟨_, rfl, _, _, rfl⟩) 1000000 0 ⟨l, false, n, i, e4, 0, want, LL0, cap, Q⟩ ⟨LL0, rfl, rfl, Nat.zero_le _⟩ (by omega)
  exact ⟨LL', k', hw⟩

theorem loop6v2 (l : List S1) (n i : Int) (e4 : Int) (want : List S2) (b : List S0) (cap : Nat) (Q LL0 : List (List S0)) (k m : Nat) (hk : (LL0.map (·.length))[k]? = some m) (hm : m ≤ 5000) :
    ∃ (LL' : List (List S0)) (j' : Int), iter gR3_6v2 1000000 ⟨l, false, n, i, e4, (k : Int), 0, want, b, LL0, cap, Q⟩ = some (false, ⟨l, false, n, i, e4, (k : Int), j', want, b, LL', cap, Q⟩) ∧ LL'.map (·.length) = LL0.map (·.length) := by
  obtain ⟨w, hw, LL', j', rfl, h⟩ := iter_inv (R := gR3_6v2) (fun j v => ∃ LL', v = ⟨l, false, n, i, e4, (k : Int), (j : Int), want, b, LL', cap, Q⟩ ∧ LL'.map (·.length) = LL0.map (·.length) ∧ j ≤ m)
    (fun w => ∃ (LL' : List (List S0)) (j' : Int), w = ⟨l, false, n, i, e4, (k : Int), j', want, b, LL', cap, Q⟩ ∧ LL'.map (·.length) = LL0.map (·.length)) m (fun j v ⟨_, _, _, q⟩ => q)
    (fun j v ⟨LL', e, hl, hj⟩ => by
      subst e
      have hk' : (LL'.map (·.length))[k]? = some m := by rw [hl]; exact hk
      rw [List.getElem?_map] at hk'
      obtain ⟨y, hy, hym⟩ := Option.map_eq_some_iff.mp hk'
      have hkl : k < LL'.length := (List.getElem?_eq_some_iff.mp hy).1
      have h1 : (decide (0 ≤ (k : Int)) && decide ((k : Int) < (LL'.length : Int))) = true := by simp; omega
      unfold gR3_6v2
      simp only [get_br, get_opt, get_leaf, get_fail, h1, cond_true, Int.toNat_natCast, hy, Option.bind_some]
      by_cases hjm : j < m
      · left
        have h2 : decide ((j : Int) < (y.length : Int)) = true := by simp; omega
        have h3 : (decide (0 ≤ (j : Int)) && decide ((j : Int) < (y.length : Int))) = true := by simp; omega
        have hwj : IntKind.i64.wrap ((j : Int) + 1) = ((j + 1 : Nat) : Int) := by rw [w64 (by omega)]; omega
        have hyj : y[j]? = some (y[j]'(by omega)) := List.getElem?_eq_getElem (by omega)
        simp only [h2, h3, cond_true, hyj, Option.bind_some, hwj]
        exact ⟨_, rfl, _, rfl, by rw [lens_set hy]; exact hl, by omega⟩
      · right
        have h2 : decide ((j : Int) < (y.length : Int)) = false := by simp; omega
        simp only [h2, cond_false]
        exact ⟨_, rfl, _, _, rfl, hl⟩) 1000000 0 ⟨l, false, n, i, e4, (k : Int), 0, want, b, LL0, cap, Q⟩ ⟨LL0, rfl, rfl, Nat.zero_le _⟩ (by omega)
  exact ⟨LL', j', hw, h⟩

theorem loop4v2 (l : List S1) (n i : Int) (e4 : Int) (want : List S2) (b : List S0) (cap : Nat) (Q LL0 : List (List S0)) (hlen : LL0.length ≤ 100) (hm : ∀ r ∈ LL0, r.length ≤ 5000) :
    ∃ (LL' : List (List S0)) (k' : Int), iter gR3_4v2 1000000 ⟨l, false, n, i, e4, 0, want, b, LL0, cap, Q⟩ = some (false, ⟨l, false, n, i, e4, k', want, b, LL', cap, Q⟩) := by
  obtain ⟨w, hw, LL', k', rfl⟩ := iter_inv (R := gR3_4v2) (fun k v => ∃ LL', v = ⟨l, false, n, i, e4, (k : Int), want, b, LL', cap, Q⟩ ∧ LL'.map (·.length) = LL0.map (·.length) ∧ k ≤ LL0.length)
    (fun w => ∃ (LL' : List (List S0)) (k' : Int), w = ⟨l, false, n, i, e4, k', want, b, LL', cap, Q⟩) LL0.length (fun j v ⟨_, _, _, q⟩ => q)
    (fun k v ⟨LL', e, hl, hk⟩ => by
      subst e
      have hll : LL'.length = LL0.length := by have := congrArg List.length hl; simpa using this
      unfold gR3_4v2
      by_cases hkl : k < LL0.length
      · left
        have h1 : decide ((k : Int) < (LL'.length : Int)) = true := by simp; omega
        have hwk : IntKind.i64.wrap ((k : Int) + 1) = ((k + 1 : Nat) : Int) := by rw [w64 (by omega)]; omega
        obtain ⟨LL2, j2, h6, h6l⟩ := loop6v2 l n i e4 want b cap Q LL' k (LL0[k].length) (by rw [hl, List.getElem?_map, List.getElem?_eq_getElem hkl]; rfl) (hm _ (List.getElem_mem hkl))
        simp only [get_br, get_opt, get_leaf, get_fail, h1, cond_true, h6, Option.bind_some, cond_false, hwk]
        exact ⟨_, rfl, LL2, rfl, h6l.trans hl, by omega⟩
      · right
        have h1 : decide ((k : Int) < (LL'.length : Int)) = false := by simp; omega
        simp only [get_br, get_opt, get_leaf, get_fail, h1, cond_false]
        exact ⟨_, rfl, _, _, rfl⟩) 1000000 0 ⟨l, false, n, i, e4, 0, want, b, LL0, cap, Q⟩ ⟨LL0, rfl, rfl, Nat.zero_le _⟩ (by omega)
  exact ⟨LL', k', hw⟩

theorem loop2 (l : List S1) (n i : Int) (want : List S2) (cap : Nat) (Q : List (List S0)) : iter gR3_2 1000000 ⟨l, false, n, i, 0, want, cap, Q⟩ = some (false, ⟨l, false, n, i, 0, want, cap, Q⟩) := by
  refine iter_all (R := gR3_2) (fun _ => ⟨l, false, n, i, 0, want, cap, Q⟩) 0 (fun j hj => by omega) (o := (false, _)) ?_ (by omega) rfl
  rfl
theorem loop2v1 (l : List S1) (n i : Int) (want : List S2) (b : List S0) (hb : b.length ≤ 5000) (cap : Nat) (Q : List (List S0)) :
    ∃ (k' : Int) (b' : List S0), iter gR3_2v1 1000000 ⟨l, false, n, i, 0, want, b, cap, Q⟩ = some (false, ⟨l, false, n, i, k', want, b', cap, Q⟩) := by
  obtain ⟨w, hw, k', b', rfl⟩ := iter_inv (R := gR3_2v1) (fun j v => ∃ b', v = ⟨l, false, n, i, (j : Int), want, b', cap, Q⟩ ∧ b'.length = b.length ∧ j ≤ b.length)
    (fun w => ∃ (k' : Int) (b' : List S0), w = ⟨l, false, n, i, k', want, b', cap, Q⟩) b.length (fun j v ⟨_, _, _, q⟩ => q)
    (fun j v ⟨b', e, hl, hj⟩ => by
      subst e
      unfold gR3_2v1
      by_cases hjb : j < b.length
      · left
        have h1 : decide ((j : Int) < (b'.length : Int)) = true := by simp; omega
        have h2 : (decide (0 ≤ (j : Int)) && decide ((j : Int) < (b'.length : Int))) = true := by simp; omega
        have hwj : IntKind.i64.wrap ((j : Int) + 1) = ((j + 1 : Nat) : Int) := by rw [w64 (by omega)]; omega
        have hyj : b'[j]? = some (b'[j]'(by omega)) := List.getElem?_eq_getElem (by omega)
        simp only [get_br, get_opt, get_leaf, get_fail, h1, h2, cond_true, Int.toNat_natCast, hyj, Option.bind_some, hwj]
        exact ⟨_, rfl, _, rfl, by rw [List.length_set]; exact hl, by omega⟩
      · right
        have h1 : decide ((j : Int) < (b'.length : Int)) = false := by simp; omega
        simp only [get_br, get_opt, get_leaf, get_fail, h1, cond_false]
        exact ⟨_, rfl, _, _, rfl⟩) 1000000 0 ⟨l, false, n, i, 0, want, b, cap, Q⟩ ⟨b, rfl, rfl, Nat.zero_le _⟩ (by omega)
  exact ⟨k', b', hw⟩

theorem loopOrder (cap : Nat) (hc : 1 ≤ cap ∧ cap ≤ 32) (l : List S1) : ∃ w Q, iter2 gR3_0 1000000 ⟨l, false, (cap : Int), 0, [], cap, []⟩ = some (.inl w) ∧ Ok cap Q ∧ w.a4 = Q.map S2.mk ∧ w.a5 = cap ∧ w.a6 = Q := by
  obtain ⟨w, hw, Q, hQ, e4, e5, e6⟩ := iter2_inv (R := gR3_0) (fun j v => j ≤ 80 ∧ ∃ Q, Ok cap Q ∧ v = ⟨l, false, (cap : Int), (j : Int), Q.map S2.mk, cap, Q⟩) (fun w => ∃ Q, Ok cap Q ∧ w.a4 = Q.map S2.mk ∧ w.a5 = cap ∧ w.a6 = Q) 80 (fun j v q => q.1)
    (fun j v ⟨ej, Q, hQ, e⟩ => by
      subst e
      have hlen := hQ.len
      have hmost := hQ.most
      unfold gR3_0
      by_cases hj : j < l.length ∧ j < 80
      · left
        have h1 : decide ((j : Int) < (l.length : Int)) = true := by simp; omega
        have h2 : decide ((j : Int) < 80) = true := by simp; omega
        have h0 : decide ((0 : Int) ≤ (j : Int)) = true := by simp
        have hwj : IntKind.i64.wrap ((j : Int) + 1) = ((j + 1 : Nat) : Int) := by rw [w64 (by omega)]; omega
        have hg : l[Int.toNat (j : Int)]? = some l[j] := by simp [List.getElem?_eq_getElem hj.1]
        have hm := mn_ok l[j].f1.length 100 (by omega)
        have hbl : (List.take (Int.toNat (mnI (l[j].f1.length : Int) 100)) l[j].f1).length ≤ 100 := by
          simp only [List.length_take]; omega
        have rows : ∀ {Q : List (List S0)}, Ok cap Q → Q.length ≤ 100 ∧ ∀ r ∈ Q, r.length ≤ 5000 := fun h => ⟨by have := h.len; omega, fun r hr => by have := h.rows r hr; omega⟩
        simp only [get_br, get_opt, get_leaf, get_fail, h1, h2, h0, cond_true, hg, Option.bind_some, hm.1]
        generalize List.take (Int.toNat (mnI (l[j].f1.length : Int) 100)) l[j].f1 = b at hbl
        cases c1 : ((remI l[j].f0 2) == 0) with
        | true =>
          cases Q with
          | nil =>
            obtain ⟨LL', k', h4⟩ := loop4 l (cap : Int) (j : Int) [] cap [] [] (by simp) (fun r hr => by simp at hr)
            have hd : (!(false == (decide ((([] : List S2).length : Int) > 0)))) = false := rfl
            simp only [cond_true, List.isEmpty_nil, List.map_nil, hd, cond_false, len_le hQ, len_room hQ, Bool.not_false, all_eq hQ, Option.bind_some, h4, hwj]
            exact ⟨_, rfl, by omega, [], hQ, rfl⟩
          | cons q R =>
            have hR := tail_ok hQ
            obtain ⟨LL', k', h4⟩ := loop4 l (cap : Int) (j : Int) (R.map S2.mk) cap R R (rows hR).1 (rows hR).2
            have hl2 : ((((q :: R).map S2.mk).length : Int) > 0) := by simp <;> omega
            have hd : (!(true == (decide ((((q :: R).map S2.mk).length : Int) > 0)))) = false := by simp [hl2]
            have h3 : (decide ((0 : Nat) ≤ 0) && decide (0 < (((q :: R).map S2.mk).length : Int))) = true := by simp <;> omega
            have h5 : ((q :: R).map S2.mk)[Int.toNat 0]? = some ⟨q⟩ := rfl
            have h6 : (decide ((0 : Nat) ≤ 1) && decide ((1 : Int) ≤ (((q :: R).map S2.mk).length : Int)) && Nat.blt 0 ((q :: R).map S2.mk).length) = true := by
              simp only [List.length_map, List.length_cons, Bool.and_eq_true, decide_eq_true_eq]
              exact ⟨⟨by omega, by omega⟩, rfl⟩
            have h7 : List.drop (Int.toNat 1) ((q :: R).map S2.mk) = R.map S2.mk := rfl
            have h8 : ∀ (inst : Decidable ((g10_0 ⟨cap, R⟩).b0 > (cap : Int))), @decide _ inst = false := fun inst => decide_eq_false (fun hh => by have := len_le hR; rw [decide_eq_false_iff_not] at this; exact this hh)
            simp only [cond_true, List.isEmpty_cons, cond_false, List.head?_cons, Option.bind_some, hd, h3, h5, ba_rfl, Bool.not_true, h6, h7, List.tail_cons, h8, len_le hR, len_room hR, Bool.not_false, all_eq hR, h4, hwj]
            refine ⟨_, (?_ : _ = some (Sum.inl ⟨l, false, (cap : Int), ((j + 1 : Nat) : Int), R.map S2.mk, cap, R⟩)), by omega, R, hR, rfl⟩
            show (bif !(decide ((g10_0 ⟨cap, R⟩).b0 > (cap : Int))) then some (Sum.inl (⟨l, false, (cap : Int), ((j + 1 : Nat) : Int), R.map S2.mk, cap, R⟩ : W3_0)) else _) = _
            rw [len_le hR]; rfl
        | false =>
          have hbd : (Nat.ble ((Q.map S2.mk).length + 1) 140737488355328 && Nat.ble (((Q.map S2.mk).length + 1) * 24) 140737488355328) = true := by
            simp only [List.length_map, Bool.and_eq_true, Nat.ble_eq]; omega
          have hbb : (Nat.ble (0 + b.length) 140737488355328 && Nat.ble ((0 + b.length) * 1) 140737488355328) = true := by
            simp only [Bool.and_eq_true, Nat.ble_eq]; omega
          have hput := put_eq (cap := cap) (Q := Q) (b := b) (by omega)
          by_cases hlt : Q.length < cap
          · have hdl : decide (((Q.map S2.mk).length : Int) < (cap : Int)) = true := by simp; omega
            have z1 : (!(((0 : Int) == 0) == true)) = false := rfl
            have z2 : ((0 : Int) == 0) = true := rfl
            cases b with
            | nil =>
              have hA := app_ok (b := []) hQ (by simp) hlt
              have hmap : Q.map S2.mk ++ [S2.mk []] = (Q ++ [[]]).map S2.mk := by simp
              obtain ⟨LL', k', h4⟩ := loop4v1 l (cap : Int) (j : Int) 0 ((Q ++ [[]]).map S2.mk) cap (Q ++ [[]]) (Q ++ [[]]) (rows hA).1 (rows hA).2
              simp only [cond_false, List.isEmpty_nil, cond_true, put_nil, put_yes (b := []) (by simp) hlt, Option.bind_some, hdl, z1, z2, hbd, hmap, loop2, len_le hA, len_room hA, Bool.not_false, all_eq hA, h4, hwj]
              exact ⟨_, rfl, by omega, _, hA, rfl⟩
            | cons b0 b1 =>
              have hA := app_ok (b := b0 :: b1) hQ (by omega) hlt
              have hmap : Q.map S2.mk ++ [S2.mk (b0 :: b1)] = (Q ++ [b0 :: b1]).map S2.mk := by simp
              obtain ⟨k2, b2, hl2⟩ := loop2v1 l (cap : Int) (j : Int) ((Q ++ [b0 :: b1]).map S2.mk) (b0 :: b1) (by omega) cap (Q ++ [b0 :: b1])
              obtain ⟨LL', k', h4⟩ := loop4v2 l (cap : Int) (j : Int) k2 ((Q ++ [b0 :: b1]).map S2.mk) b2 cap (Q ++ [b0 :: b1]) (Q ++ [b0 :: b1]) (rows hA).1 (rows hA).2
              simp only [cond_false, List.isEmpty_cons, cond_true, hbb, hput, put_yes (b := b0 :: b1) (by omega) hlt, Option.bind_some, hdl, z1, z2, hbd, hmap, hl2, len_le hA, len_room hA, Bool.not_false, all_eq hA, h4, hwj]
              exact ⟨_, rfl, by omega, _, hA, rfl⟩
          · have hdl : decide (((Q.map S2.mk).length : Int) < (cap : Int)) = false := by simp; omega
            have z1 : (!(((71 : Int) == 0) == false)) = false := rfl
            have z2 : ((71 : Int) == 0) = false := rfl
            cases b with
            | nil =>
              obtain ⟨LL', k', h4⟩ := loop4v1 l (cap : Int) (j : Int) 0 (Q.map S2.mk) cap Q Q (rows hQ).1 (rows hQ).2
              simp only [cond_false, List.isEmpty_nil, cond_true, put_nil, put_no (b := []) (by simp) hlt, Option.bind_some, hdl, z1, z2, loop2, len_le hQ, len_room hQ, Bool.not_false, all_eq hQ, h4, hwj]
              exact ⟨_, rfl, by omega, _, hQ, rfl⟩
            | cons b0 b1 =>
              obtain ⟨k2, b2, hl2⟩ := loop2v1 l (cap : Int) (j : Int) (Q.map S2.mk) (b0 :: b1) (by omega) cap Q
              obtain ⟨LL', k', h4⟩ := loop4v2 l (cap : Int) (j : Int) k2 (Q.map S2.mk) b2 cap Q Q (rows hQ).1 (rows hQ).2
              simp only [cond_false, List.isEmpty_cons, cond_true, hbb, hput, put_no (b := b0 :: b1) (by omega) hlt, Option.bind_some, hdl, z1, z2, hl2, len_le hQ, len_room hQ, Bool.not_false, all_eq hQ, h4, hwj]
              exact ⟨_, rfl, by omega, _, hQ, rfl⟩
      · right
        have hcond : (bif decide ((j : Int) < (l.length : Int)) then decide ((j : Int) < 80) else false) = false := by
          by_cases a : j < l.length
          · have b : ¬ j < 80 := fun b => hj ⟨a, b⟩
            have : decide ((j : Int) < 80) = false := by simp; omega
            rw [this]; cases decide ((j : Int) < (l.length : Int)) <;> rfl
          · have : decide ((j : Int) < (l.length : Int)) = false := by simp; omega
            rw [this]; rfl
        simp only [get_br, get_leaf, hcond, cond_false]
        exact ⟨_, rfl, Q, hQ, rfl, rfl, rfl⟩) 1000000 0 ⟨l, false, (cap : Int), 0, [], cap, []⟩ ⟨by omega, [], ⟨hc.1, hc.2, Nat.zero_le _, fun r hr => by simp at hr⟩, rfl⟩ (by omega)
  exact ⟨w, Q, hw, hQ, e4, e5, e6⟩

theorem law3 (x : Int) (hx : 0 ≤ x ∧ x ≤ 255) (l : List S1) : g3 x l = some true := by
  obtain ⟨cap, hcap, h1, h2⟩ : ∃ cap : Nat, IntKind.i64.wrap (1 + (remI (IntKind.i64.wrap x) 8)) = (cap : Int) ∧ 1 ≤ cap ∧ cap ≤ 8 := by
    have e : remI (IntKind.i64.wrap x) 8 = x % 8 := by
      rw [w64 (by omega)]
      unfold remI
      exact Int.tmod_eq_emod_of_nonneg hx.1
    rw [e, w64 (by omega)]
    exact ⟨(1 + x % 8).toNat, by omega, by omega, by omega⟩
  unfold g3 g3T
  rw [hcap]
  have hc : (bif (decide ((cap : Int) < 1)) then true else (decide ((cap : Int) > 32))) = false := by
    have a : ¬ (cap : Int) < 1 := by omega
    have b : ¬ (cap : Int) > 32 := by omega
    simp [a, b]
  have hm : (decide (0 ≤ (cap : Int)) && decide ((cap : Int) ≤ 9223372036854775807) && decide ((24 : Int) * (cap : Int) ≤ 281474976710544) && Nat.ble 1 1) = true := by
    simp only [Bool.and_eq_true, decide_eq_true_eq]
    refine ⟨⟨⟨by omega, by omega⟩, by omega⟩, rfl⟩
  obtain ⟨w, Q, hw, hQ, e4, e5, e6⟩ := loopOrder cap (by omega) l
  have hs : g13 (List.map S2.mk Q) (Q.map S2.mk) = some true := same_self _ (by have := hQ.len; have := hQ.most; simp; omega)
  simp only [get_br, get_opt, get_leaf, hc, cond_false, hm, cond_true, awake, Option.bind_some, Bool.not_true, Int.toNat_natCast, hw, Sum.isRight_inl, Sum.getLeft?_inl, e4, e5, e6, all_eq hQ, hs]

end Ab21o
