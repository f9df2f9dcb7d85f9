/- Seat 21: the plain laws: queues. -/
import Derived.Test.YtllohgmahflpaaaAb21b
import Derived.Test.YtllohgmahflpaaaAbArith
set_option maxRecDepth 100000
set_option maxHeartbeats 4000000
set_option linter.unusedVariables false
set_option linter.unusedSimpArgs false
namespace Ab21
open Go Ab

theorem w64 {n : Int} (h : -9223372036854775808 ≤ n ∧ n ≤ 9223372036854775807) : IntKind.i64.wrap n = n := by
  rw [wr_i64]; split <;> omega
theorem awake : g7 = some true := by kernel_rfl
theorem ba_rfl (a : ByteArray) : (a == a) = true := by
  cases a
  show ByteArray.beq _ _ = true
  unfold ByteArray.beq
  simp
theorem ne_self {a : Int} : (a != a) = false := by simp

theorem mn_ok (n : Nat) (m : Int) (hm : 0 ≤ m) : (decide (0 ≤ mnI (n : Int) m) && decide (mnI (n : Int) m ≤ (n : Int))) = true ∧ mnI (n : Int) m ≤ m := by
  unfold mnI
  constructor
  · simp only [Bool.and_eq_true, decide_eq_true_eq]; split <;> omega
  · split <;> omega

theorem law5 (x : List S0) : g5 x = some true := by
  have hb := (mn_ok x.length 100 (by omega)).1
  unfold g5 g5T
  simp only [get_br, hb, cond_true]
  change _ = some true
  kernel_rfl

/-- A frame put. -/
def putQ (cap : Nat) (Q : List (List S0)) (b : List S0) : Int × List (List S0) := if b.length > 2048 then (2, Q) else if Q.length < cap then (0, Q ++ [b]) else (71, Q)

structure Ok (cap : Nat) (Q : List (List S0)) : Prop where
  one : 1 ≤ cap
  most : cap ≤ 32
  len : Q.length ≤ cap
  rows : ∀ r ∈ Q, r.length ≤ 2048

theorem clone_b {b : List S0} (hb : b.length ≤ 2100) : (b.isEmpty || cloneB 0 1 b) = true := by
  have : cloneB 0 1 b = true := by
    unfold cloneB
    simp only [Bool.and_eq_true, Nat.ble_eq]
    constructor
    · show 0 + b.length ≤ _; omega
    · show (0 + b.length) * 1 ≤ _; omega
  rw [this, Bool.or_true]

theorem put_eq {cap : Nat} {Q : List (List S0)} {b : List S0} (hb : b.length ≤ 2100) : g9_2 ⟨b, cap, Q⟩ = some ⟨(putQ cap Q b).1, (putQ cap Q b).2⟩ := by
  unfold g9_2 g9_2T putQ
  simp only [get_br, get_leaf, clone_b hb, cond_true]
  by_cases h1 : b.length > 2048
  · have h2 : ((b.length : Int) > 2048) := by omega
    simp [h1, h2]
  · have h2 : ¬ ((b.length : Int) > 2048) := by omega
    by_cases h3 : Q.length < cap
    · simp [h1, h2, h3]
    · simp [h1, h2, h3]
theorem put_eq0 {cap : Nat} {Q : List (List S0)} {b : List S0} (hb : b.length ≤ 2100) : g9_0 ⟨b, cap, Q⟩ = some ⟨(putQ cap Q b).1, (putQ cap Q b).2⟩ := by
  have h : g9_0 ⟨b, cap, Q⟩ = (g9_2 ⟨b, cap, Q⟩).map fun y => ⟨y.b0, y.b1⟩ := by
    unfold g9_2 g9_2T g9_0 g9_0T
    simp only [get_br, get_leaf, get_fail]
    cases decide ((b.length : Int) > 2048) <;> cases (b.isEmpty || cloneB 0 1 b) <;> cases decide (Q.length < cap) <;> rfl
  rw [h, put_eq hb]; rfl
theorem put_ok {cap : Nat} {Q : List (List S0)} {b : List S0} (h : Ok cap Q) : Ok cap (putQ cap Q b).2 := by
  unfold putQ
  split
  · exact h
  · split
    · refine ⟨h.one, h.most, by simp; omega, fun r hr => ?_⟩
      rcases List.mem_append.mp hr with hr | hr
      · exact h.rows r hr
      · simp at hr; subst hr; omega
    · exact h

theorem take_eq (cap : Nat) (Q : List (List S0)) : g8_0 ⟨cap, Q⟩ = some ⟨Q.headD [], !Q.isEmpty, Q.tail⟩ := by cases Q <;> rfl
theorem tail_ok {cap : Nat} {Q : List (List S0)} (h : Ok cap Q) : Ok cap Q.tail := ⟨h.one, h.most, by have := h.len; simp; omega, fun r hr => h.rows r (List.mem_of_mem_tail hr)⟩

theorem all_eq {cap : Nat} {Q : List (List S0)} (h : Ok cap Q) : g12_1 ⟨cap, Q⟩ = some ⟨Q.map S2.mk, cap, Q⟩ := by
  have hl := h.len
  have hm := h.most
  have hw : iter gR12_0n2 1000000 ⟨(Q.length : Int), 0, cap, Q, []⟩ = some (false, ⟨(Q.length : Int), (Q.length : Int), cap, Q, Q.map S2.mk⟩) := by
    refine iter_all (R := gR12_0n2) (fun j => ⟨(Q.length : Int), (j : Int), cap, Q.drop j ++ Q.take j, (Q.take j).map S2.mk⟩) Q.length (fun j hj => ?_) (o := (false, ⟨(Q.length : Int), (Q.length : Int), cap, Q, Q.map S2.mk⟩)) ?_ (by omega) (by simp)
    · have hd : Q.drop j = Q[j] :: Q.drop (j + 1) := List.drop_eq_getElem_cons hj
      have htk : Q.take (j + 1) = Q.take j ++ [Q[j]] := by rw [List.take_add_one, List.getElem?_eq_getElem hj]; rfl
      have hr : Q[j].length ≤ 2048 := h.rows _ (List.getElem_mem hj)
      have hp : putQ cap (Q.drop (j + 1) ++ Q.take j) Q[j] = (0, (Q.drop (j + 1) ++ Q.take j) ++ [Q[j]]) := by
        unfold putQ
        rw [if_neg (by omega), if_pos (by simp; omega)]
      have hb : (Nat.ble (((Q.take j).map S2.mk).length + 1) 140737488355328 && Nat.ble ((((Q.take j).map S2.mk).length + 1) * 24) 140737488355328) = true := by
        simp only [List.length_map, List.length_take, Bool.and_eq_true, Nat.ble_eq]
        omega
      have hjl : decide ((j : Int) < (Q.length : Int)) = true := by simp; omega
      have hwj : IntKind.i64.wrap ((j : Int) + 1) = ((j + 1 : Nat) : Int) := by rw [w64 (by omega)]; omega
      unfold gR12_0n2
      simp only [get_br, get_opt, get_leaf, hjl, cond_true, hd, List.cons_append, take_eq, List.headD_cons, List.isEmpty_cons, Bool.not_false, List.tail_cons, Option.bind_some, Bool.not_true, cond_false, hb, put_eq (show Q[j].length ≤ 2100 by omega), hp, hwj, htk, List.map_append, List.append_assoc, List.map_cons, List.map_nil]
    · unfold gR12_0n2
      simp [get_br, get_opt, get_leaf]
  unfold g12_1 g12_1T
  simp only [get_br, get_opt, get_leaf]
  have h10 : (g10_0 ⟨cap, Q⟩).b0 = (Q.length : Int) := rfl
  rw [h10, hw]
  rfl

theorem clear_eq {cap : Nat} (a0 : Int) : ∀ (Q : List (List S0)) (k n : Nat), Q.length < n → k + Q.length ≤ 1000 → iter2 gR17_0n2 n ⟨a0, (k : Int), cap, Q⟩ = some (.inr ⟨((k + Q.length : Nat) : Int), cap, []⟩)
  | [], k, n, hn, hk => by
    obtain ⟨n, rfl⟩ : ∃ q, n = q + 1 := ⟨n - 1, by simp at hn; omega⟩
    unfold iter2 gR17_0n2
    simp [get_br, get_opt, get_leaf, take_eq]
  | r :: Q, k, n, hn, hk => by
    obtain ⟨n, rfl⟩ : ∃ q, n = q + 1 := ⟨n - 1, by simp at hn; omega⟩
    simp only [List.length_cons] at hn hk
    have hwj : IntKind.i64.wrap ((k : Int) + 1) = ((k + 1 : Nat) : Int) := by rw [w64 (by omega)]; omega
    have ih := clear_eq (cap := cap) a0 Q (k + 1) n (by omega) (by omega)
    unfold iter2
    have hs : (gR17_0n2 ⟨a0, (k : Int), cap, r :: Q⟩).get? = some (.inl ⟨a0, ((k + 1 : Nat) : Int), cap, Q⟩) := by
      unfold gR17_0n2
      simp only [get_br, get_opt, get_leaf, take_eq, List.isEmpty_cons, Bool.not_false, Option.bind_some, Bool.not_true, cond_false, List.tail_cons, hwj]
    rw [hs]
    simp only
    rw [ih, List.length_cons, show k + 1 + Q.length = k + (Q.length + 1) by omega]
theorem clear_all {cap : Nat} {Q : List (List S0)} (h : Ok cap Q) : g17_1 ⟨cap, Q⟩ = some ⟨(Q.length : Int), cap, []⟩ := by
  have hl := h.len
  have hm := h.most
  have hc := clear_eq (cap := cap) 0 Q 0 1000000 (by omega) (by omega)
  rw [Nat.zero_add] at hc
  unfold g17_1 g17_1T
  simp only [get_br, get_opt, get_leaf]
  rw [show ((0 : Nat) : Int) = 0 from rfl] at hc
  rw [hc]
  rfl

theorem fork_eq {cap : Nat} {Q : List (List S0)} (h : Ok cap Q) : g18_1 ⟨cap, Q⟩ = some ⟨cap, Q, cap, Q⟩ := by
  have hl := h.len
  have hm := h.most
  have hw : iter gR18_0n2 1000000 ⟨Q.map S2.mk, ((Q.map S2.mk).length : Int), 0, cap, Q, cap, []⟩ = some (false, ⟨Q.map S2.mk, ((Q.map S2.mk).length : Int), ((Q.map S2.mk).length : Int), cap, Q, cap, Q⟩) := by
    refine iter_all (R := gR18_0n2) (fun j => ⟨Q.map S2.mk, ((Q.map S2.mk).length : Int), (j : Int), cap, Q, cap, Q.take j⟩) (Q.map S2.mk).length (fun j hj => ?_) (o := (false, _)) ?_ (by simp; omega) (by simp)
    · have hjq : j < Q.length := by simpa using hj
      have htk : Q.take (j + 1) = Q.take j ++ [Q[j]] := by rw [List.take_add_one, List.getElem?_eq_getElem hjq]; rfl
      have hr : Q[j].length ≤ 2048 := h.rows _ (List.getElem_mem hjq)
      have hp : putQ cap (Q.take j) Q[j] = (0, Q.take j ++ [Q[j]]) := by
        unfold putQ
        rw [if_neg (by omega), if_pos (by simp; omega)]
      have hjl : decide ((j : Int) < ((Q.map S2.mk).length : Int)) = true := by simp; omega
      have h0 : decide ((0 : Int) ≤ (j : Int)) = true := by simp
      have hwj : IntKind.i64.wrap ((j : Int) + 1) = ((j + 1 : Nat) : Int) := by rw [w64 (by omega)]; omega
      have hg : (Q.map S2.mk)[Int.toNat (j : Int)]? = some ⟨Q[j]⟩ := by simp [List.getElem?_eq_getElem hjq]
      unfold gR18_0n2
      simp only [get_br, get_opt, get_leaf, hjl, h0, cond_true, hg, Option.bind_some, put_eq (show Q[j].length ≤ 2100 by omega), hp, hwj, htk]
    · unfold gR18_0n2
      simp [get_br, get_opt, get_leaf]
  have hc : (decide (0 ≤ (cap : Int)) && decide ((cap : Int) ≤ 9223372036854775807) && decide ((24 : Int) * (cap : Int) ≤ 281474976710544) && Nat.ble 1 1) = true := by
    simp only [Bool.and_eq_true, decide_eq_true_eq]
    refine ⟨⟨⟨by omega, by omega⟩, by omega⟩, rfl⟩
  unfold g18_1 g18_1T
  simp only [get_br, get_opt, get_leaf, hc, cond_true, all_eq h, Option.bind_some, Int.toNat_natCast, hw, cond_false]

theorem same_self (l : List S2) (hl : l.length ≤ 100) : g13 l l = some true := by
  obtain ⟨w, hw, _⟩ := iter2_inv (R := gR13_0) (fun j v => v.a0 = l ∧ v.a1 = l ∧ v.a3 = (j : Int) ∧ j ≤ l.length) (fun _ => True) 100 (fun j v q => by omega)
    (fun j v ⟨e0, e1, e3, ej⟩ => by
      unfold gR13_0
      simp only [get_br, get_opt, get_leaf, get_fail, e0, e1, e3]
      by_cases hj : (j : Int) < (l.length : Int)
      · left
        have hp : (0 : Int) ≤ (j : Int) := by omega
        have hwj : IntKind.i64.wrap ((j : Int) + 1) = ((j + 1 : Nat) : Int) := by rw [w64 (by omega)]; omega
        simp only [hj, decide_true, cond_true, hp, Int.toNat_natCast, List.getElem?_eq_getElem (show j < l.length by omega), Option.bind_some, ba_rfl, Bool.not_true, cond_false, hwj]
        exact ⟨_, rfl, rfl, rfl, rfl, by omega⟩
      · right
        simp only [hj, decide_false, cond_false]
        exact ⟨v, rfl, trivial⟩) 1000000 0 ⟨l, l, false, 0⟩ ⟨rfl, rfl, rfl, by omega⟩ (by omega)
  unfold g13 g13T
  have hn : ((l.length : Int) != (l.length : Int)) = false := by simp
  simp only [get_br, get_opt, get_leaf, hn, cond_false, hw, Option.bind_some, Sum.isRight_inl, Sum.getLeft?_inl]

theorem ref_put {cap : Nat} {Q : List (List S0)} {b : List S0} (h : Ok cap Q) (hb : b.length ≤ 2100) : g15 ⟨(cap : Int), Q.map S2.mk⟩ b = some (⟨(cap : Int), (putQ cap Q b).2.map S2.mk⟩, (putQ cap Q b).1) := by
  have hl := h.len
  have hm := h.most
  unfold g15 g15T putQ
  simp only [get_br, get_leaf]
  by_cases h1 : b.length > 2048
  · have h2 : ((b.length : Int) > 2048) := by omega
    simp [h1, h2]
  · have h2 : ¬ ((b.length : Int) > 2048) := by omega
    by_cases h3 : Q.length < cap
    · have h4 : ¬ (((Q.map S2.mk).length : Int) ≥ (cap : Int)) := by simp; omega
      simp only [h1, h2, h3, h4, decide_false, cond_false, if_false, if_true]
      have hb1 : (Nat.ble (0 + b.length) 140737488355328 && Nat.ble ((0 + b.length) * 1) 140737488355328) = true := by
        simp only [Bool.and_eq_true, Nat.ble_eq]; omega
      cases Q with
      | nil =>
        simp only [List.map_nil, List.isEmpty_nil, cond_true]
        cases b with
        | nil => rfl
        | cons y r => simp only [List.isEmpty_cons, cond_false, hb1, cond_true]; rfl
      | cons q Q =>
        have hb2 : (Nat.ble (0 + ((q :: Q).map S2.mk).length) 140737488355328 && Nat.ble ((0 + ((q :: Q).map S2.mk).length) * 24) 140737488355328) = true := by
          simp only [List.length_map, Bool.and_eq_true, Nat.ble_eq]; omega
        have hb3 : (Nat.ble (((q :: Q).map S2.mk).length + 1) 140737488355328 && Nat.ble ((((q :: Q).map S2.mk).length + 1) * 24) 140737488355328) = true := by
          simp only [List.length_map, Bool.and_eq_true, Nat.ble_eq]; omega
        have he : ((q :: Q).map S2.mk).isEmpty = false := rfl
        simp only [he, cond_false, hb2, hb3, cond_true]
        cases b with
        | nil => simp
        | cons y r => simp only [List.isEmpty_cons, cond_false, hb1, cond_true]; simp
    · have h4 : (((Q.map S2.mk).length : Int) ≥ (cap : Int)) := by simp; omega
      have h5 : cap ≤ Q.length := by omega
      simp [h1, h2, h3, h4, h5]

theorem ref_take {cap : Nat} {Q : List (List S0)} (h : Ok cap Q) : g16 ⟨(cap : Int), Q.map S2.mk⟩ = some (⟨(cap : Int), Q.tail.map S2.mk⟩, Q.headD [], !Q.isEmpty) := by
  have hl := h.len
  have hm := h.most
  unfold g16 g16T
  cases Q with
  | nil => rfl
  | cons q Q =>
    simp only [List.length_cons] at hl
    have h1 : ((((q :: Q).map S2.mk).length : Int) == 0) = false := by simp; omega
    have h2 : (decide ((0 : Nat) ≤ 1) && decide ((1 : Int) ≤ (((q :: Q).map S2.mk).length : Int))) = true := by simp; omega
    have h3 : List.drop (Int.toNat 1) ((q :: Q).map S2.mk) = Q.map S2.mk := rfl
    have h4 : (Nat.ble (0 + (Q.map S2.mk).length) 140737488355328 && Nat.ble ((0 + (Q.map S2.mk).length) * 24) 140737488355328) = true := by
      simp only [List.length_map, Bool.and_eq_true, Nat.ble_eq]; omega
    simp only [get_br, get_opt, get_leaf, h1, cond_false, List.map_cons, List.getElem?_cons_zero, Option.bind_some]
    rw [← List.map_cons]
    simp only [h1, h2, h3, h4, cond_true, cond_false]
    cases Q with
    | nil => rfl
    | cons r R => rfl

end Ab21
