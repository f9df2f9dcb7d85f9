/- Seat 25: the plain laws: what is put on a row, what is taken off it, what all of it is (printed by wire.py). -/
import Derived.Test.YtdflhpknkcjfpaaAb25c
set_option maxRecDepth 100000
set_option maxHeartbeats 1000000
set_option linter.unusedVariables false
set_option linter.unusedSimpArgs false
namespace Ab25
open Go Ab

theorem firstP_at {α : Type} {p : Nat → Option α} {u : α} : ∀ (k j q : Nat), j ≤ q → q < j + k → p q = some u → (∀ i, j ≤ i → i < q → p i = none) → firstP p k j = some u
  | 0, j, q, h1, h2, _, _ => by omega
  | k + 1, j, q, h1, h2, h3, h4 => by
    unfold firstP
    by_cases h : j = q
    · subst h; rw [h3]
    · rw [h4 j (Nat.le_refl _) (by omega)]
      exact firstP_at k (j + 1) q (by omega) (by omega) h3 fun i h5 h6 => h4 i (by omega) h6

def Sz (l : List S2) : Prop := ∀ y ∈ l, y.f0.length ≤ 2100

theorem cl0 (b : List S0) (h : b.length ≤ 2100) : (b.isEmpty || cloneB 0 1 b) = true := by
  have : cloneB 0 1 b = true := by
    unfold cloneB
    simp only [List.length_nil, Nat.zero_add, Bool.and_eq_true, Nat.ble_eq]
    have h : List.length (α := Uni.val 0) b ≤ 2100 := h
    omega
  rw [this, Bool.or_true]
theorem cl2 (l : List S2) (h : l.length ≤ 200) : (l.isEmpty || cloneB 2 24 l) = true := by
  rw [clone_small (c := 2) l (by omega) (by have h : List.length (α := Uni.val 2) l ≤ 200 := h; omega), Bool.or_true]
theorem gr2 (l : List S2) (h : l.length ≤ 200) : (Nat.ble (l.length + 1) 140737488355328 && Nat.ble ((l.length + 1) * 24) 140737488355328) = true := by
  simp only [Bool.and_eq_true, Nat.ble_eq]; omega

/-- One taken off a row: its bytes, the others. -/
def tk (X : List S2) (n : Int) : Option (List S0 × List S2) := if 0 ≤ n then (X[n.toNat]?).map fun y => (y.f0, X.take n.toNat ++ X.drop (n.toNat + 1)) else none
theorem tk_no {X : List S2} {n : Int} (h : n < 0 ∨ (X.length : Int) ≤ n) : tk X n = none := by
  unfold tk
  split
  · rw [List.getElem?_eq_none (by omega)]; rfl
  · rfl
theorem tk_yes {X : List S2} {n : Nat} (h : n < X.length) : tk X n = some (X[n].f0, X.take n ++ X.drop (n + 1)) := by
  unfold tk
  rw [if_pos (by omega), Int.toNat_natCast, List.getElem?_eq_getElem h]; rfl


theorem put0 (x : List S0) (m t : Bool) (a b c d : List S2) (h : a.length ≤ 200) (hb : x.length ≤ 2100) : g32_0 ⟨x, m, t, a, b, c, d⟩ = some ⟨a ++ [⟨x⟩]⟩ := by
  unfold g32_0 g32_0T
  simp only [get_br, cl2 a h, cl0 x hb, gr2 a h, cond_true, get_leaf]

theorem take0 (n : Int) (m t : Bool) (a b c d : List S2) (h : a.length ≤ 200) : g33_0 ⟨n, m, t, a, b, c, d⟩ = some (match tk a n with
    | some r => ⟨r.1, true, m, t, r.2, b, c, d⟩
    | none => ⟨[], false, m, t, a, b, c, d⟩) := by
  have step : ∀ j, j < a.length → (gR33_0 ⟨n, false, a, (a.length : Int), (j : Nat), m, t, a, b, c, d⟩).get? = some ((if (j : Int) = n then (tk a n).map fun r => (⟨r.1, true, m, t, r.2, b, c, d⟩ : U33_0) else none).elim (.inl ⟨n, false, a, (a.length : Int), ((j + 1 : Nat) : Int), m, t, a, b, c, d⟩) fun u => .inr (.inr u)) := by
    intro j hj
    unfold gR33_0
    simp only [get_br, decide_eq_true (show (j : Int) < (a.length : Int) by omega), decide_eq_true (show (0 : Int) ≤ (j : Int) by omega), cond_true, get_opt, Int.toNat_natCast, List.getElem?_eq_getElem hj, Option.bind_some]
    by_cases hn : (j : Int) = n
    · subst hn
      have hw : IntKind.i64.wrap ((j : Int) + 1) = ((j + 1 : Nat) : Int) := by rw [w64 (by omega)]; omega
      have hc : (decide ((j : Int) ≤ ((j + 1 : Nat) : Int)) && decide (((j + 1 : Nat) : Int) ≤ (a.length : Int)) && Nat.blt 0 a.length) = true := by
        have h0 : Nat.blt 0 a.length = true := Nat.ble_eq_true_of_le (by omega)
        rw [h0]
        simp only [Bool.and_true, Bool.and_eq_true, decide_eq_true_eq]
        omega
      simp only [bne_self_eq_false, cond_false, cl2 a h, cond_true, hw, Int.toNat_natCast, Bool.true_and, hc, get_leaf, if_true, tk_yes hj, Option.map_some, Option.elim_some]
    · have hb : ((j : Int) != n) = true := by simpa using hn
      simp only [hb, cond_true, get_leaf, if_neg hn, Option.elim_none]
      rw [w64 (by omega)]
      rfl
  have fin : (gR33_0 ⟨n, false, a, (a.length : Int), (a.length : Int), m, t, a, b, c, d⟩).get? = some (.inr (.inl ⟨n, false, a, (a.length : Int), (a.length : Int), m, t, a, b, c, d⟩)) := by
    unfold gR33_0
    simp only [get_br, decide_eq_false (show ¬ (a.length : Int) < (a.length : Int) by omega), cond_false, get_leaf]
  have key := iter2_find (R := gR33_0) (fun j => W33_0.mk n false a (a.length : Int) (j : Nat) m t a b c d) a.length (fun j => if (j : Int) = n then (tk a n).map fun r => (⟨r.1, true, m, t, r.2, b, c, d⟩ : U33_0) else none) step fin a.length 0 1000000 (by omega) (by omega)
  have key : iter2 gR33_0 1000000 ⟨n, false, a, (a.length : Int), 0, m, t, a, b, c, d⟩ = _ := key
  unfold g33_0 g33_0T
  rw [get_opt, key]
  by_cases hr : 0 ≤ n ∧ n < (a.length : Int)
  · obtain ⟨q, rfl⟩ : ∃ q : Nat, n = q := ⟨n.toNat, by omega⟩
    have hq : q < a.length := by omega
    rw [firstP_at a.length 0 q (by omega) (by omega) (u := (⟨a[q].f0, true, m, t, (a.take q ++ a.drop (q + 1)), b, c, d⟩ : U33_0)) (by simp only [if_true, tk_yes hq, Option.map_some]) (fun i _ hi => by
      have hne : ¬ ((i : Int) = (q : Int)) := by omega
      simp only [if_neg hne]), tk_yes hq]
    rfl
  · have hno : tk a n = none := tk_no (by omega)
    rw [firstP_none (fun q _ hq => by
      have hne : ¬ ((q : Int) = n) := by omega
      simp only [if_neg hne]), hno]
    rfl

theorem all0 (m t : Bool) (a b c d : List S2) (h : a.length ≤ 200) (hs : Sz a) : g30_0 ⟨m, t, a, b, c, d⟩ = some ⟨a, m, t, a, b, c, d⟩ := by
  have step : ∀ j, j < a.length → (gR30_0 ⟨a, (a.length : Int), (j : Nat), m, t, a, b, c, d, a.take j⟩).get? = some (.inl ⟨a, (a.length : Int), ((j + 1 : Nat) : Int), m, t, a, b, c, d, a.take (j + 1)⟩) := by
    intro j hj
    have hy : a[j].f0.length ≤ 2100 := hs _ (List.getElem_mem hj)
    unfold gR30_0
    simp only [get_br, decide_eq_true (show (j : Int) < (a.length : Int) by omega), decide_eq_true (show (0 : Int) ≤ (j : Int) by omega), cond_true, get_opt, Int.toNat_natCast, List.getElem?_eq_getElem hj, Option.bind_some, cl0 _ hy, gr2 (a.take j) (by simp; omega), get_leaf]
    rw [w64 (by omega), List.take_succ_eq_append_getElem hj]
    rfl
  have fin : (gR30_0 ⟨a, (a.length : Int), (a.length : Int), m, t, a, b, c, d, a.take a.length⟩).get? = some (.inr (false, ⟨a, (a.length : Int), (a.length : Int), m, t, a, b, c, d, a.take a.length⟩)) := by
    unfold gR30_0
    simp only [get_br, decide_eq_false (show ¬ (a.length : Int) < (a.length : Int) by omega), cond_false, get_leaf]
  have key := iter_all (R := gR30_0) (fun j => W30_0.mk a (a.length : Int) (j : Nat) m t a b c d (a.take j)) a.length step fin (n := 1000000) (by omega) (v := ⟨a, (a.length : Int), 0, m, t, a, b, c, d, []⟩) rfl
  unfold g30_0 g30_0T
  rw [get_opt, key, List.take_length]
  rfl


theorem put1 (x : List S0) (m t : Bool) (a b c d : List S2) (h : b.length ≤ 200) (hb : x.length ≤ 2100) : g32_1 ⟨x, m, t, a, b, c, d⟩ = some ⟨b ++ [⟨x⟩]⟩ := by
  unfold g32_1 g32_1T
  simp only [get_br, cl2 b h, cl0 x hb, gr2 b h, cond_true, get_leaf]

theorem take1 (n : Int) (m t : Bool) (a b c d : List S2) (h : b.length ≤ 200) : g33_1 ⟨n, m, t, a, b, c, d⟩ = some (match tk b n with
    | some r => ⟨r.1, true, m, t, a, r.2, c, d⟩
    | none => ⟨[], false, m, t, a, b, c, d⟩) := by
  have step : ∀ j, j < b.length → (gR33_0v1 ⟨n, false, b, (b.length : Int), (j : Nat), m, t, a, b, c, d⟩).get? = some ((if (j : Int) = n then (tk b n).map fun r => (⟨r.1, true, m, t, a, r.2, c, d⟩ : U33_0v1) else none).elim (.inl ⟨n, false, b, (b.length : Int), ((j + 1 : Nat) : Int), m, t, a, b, c, d⟩) fun u => .inr (.inr u)) := by
    intro j hj
    unfold gR33_0v1
    simp only [get_br, decide_eq_true (show (j : Int) < (b.length : Int) by omega), decide_eq_true (show (0 : Int) ≤ (j : Int) by omega), cond_true, get_opt, Int.toNat_natCast, List.getElem?_eq_getElem hj, Option.bind_some]
    by_cases hn : (j : Int) = n
    · subst hn
      have hw : IntKind.i64.wrap ((j : Int) + 1) = ((j + 1 : Nat) : Int) := by rw [w64 (by omega)]; omega
      have hc : (decide ((j : Int) ≤ ((j + 1 : Nat) : Int)) && decide (((j + 1 : Nat) : Int) ≤ (b.length : Int)) && Nat.blt 0 b.length) = true := by
        have h0 : Nat.blt 0 b.length = true := Nat.ble_eq_true_of_le (by omega)
        rw [h0]
        simp only [Bool.and_true, Bool.and_eq_true, decide_eq_true_eq]
        omega
      simp only [bne_self_eq_false, cond_false, cl2 b h, cond_true, hw, Int.toNat_natCast, Bool.true_and, hc, get_leaf, if_true, tk_yes hj, Option.map_some, Option.elim_some]
    · have hb : ((j : Int) != n) = true := by simpa using hn
      simp only [hb, cond_true, get_leaf, if_neg hn, Option.elim_none]
      rw [w64 (by omega)]
      rfl
  have fin : (gR33_0v1 ⟨n, false, b, (b.length : Int), (b.length : Int), m, t, a, b, c, d⟩).get? = some (.inr (.inl ⟨n, false, b, (b.length : Int), (b.length : Int), m, t, a, b, c, d⟩)) := by
    unfold gR33_0v1
    simp only [get_br, decide_eq_false (show ¬ (b.length : Int) < (b.length : Int) by omega), cond_false, get_leaf]
  have key := iter2_find (R := gR33_0v1) (fun j => W33_0v1.mk n false b (b.length : Int) (j : Nat) m t a b c d) b.length (fun j => if (j : Int) = n then (tk b n).map fun r => (⟨r.1, true, m, t, a, r.2, c, d⟩ : U33_0v1) else none) step fin b.length 0 1000000 (by omega) (by omega)
  have key : iter2 gR33_0v1 1000000 ⟨n, false, b, (b.length : Int), 0, m, t, a, b, c, d⟩ = _ := key
  unfold g33_1 g33_1T
  rw [get_opt, key]
  by_cases hr : 0 ≤ n ∧ n < (b.length : Int)
  · obtain ⟨q, rfl⟩ : ∃ q : Nat, n = q := ⟨n.toNat, by omega⟩
    have hq : q < b.length := by omega
    rw [firstP_at b.length 0 q (by omega) (by omega) (u := (⟨b[q].f0, true, m, t, a, (b.take q ++ b.drop (q + 1)), c, d⟩ : U33_0v1)) (by simp only [if_true, tk_yes hq, Option.map_some]) (fun i _ hi => by
      have hne : ¬ ((i : Int) = (q : Int)) := by omega
      simp only [if_neg hne]), tk_yes hq]
    rfl
  · have hno : tk b n = none := tk_no (by omega)
    rw [firstP_none (fun q _ hq => by
      have hne : ¬ ((q : Int) = n) := by omega
      simp only [if_neg hne]), hno]
    rfl

theorem all1 (m t : Bool) (a b c d : List S2) (h : b.length ≤ 200) (hs : Sz b) : g30_1 ⟨m, t, a, b, c, d⟩ = some ⟨b, m, t, a, b, c, d⟩ := by
  have step : ∀ j, j < b.length → (gR30_0 ⟨b, (b.length : Int), (j : Nat), m, t, a, b, c, d, b.take j⟩).get? = some (.inl ⟨b, (b.length : Int), ((j + 1 : Nat) : Int), m, t, a, b, c, d, b.take (j + 1)⟩) := by
    intro j hj
    have hy : b[j].f0.length ≤ 2100 := hs _ (List.getElem_mem hj)
    unfold gR30_0
    simp only [get_br, decide_eq_true (show (j : Int) < (b.length : Int) by omega), decide_eq_true (show (0 : Int) ≤ (j : Int) by omega), cond_true, get_opt, Int.toNat_natCast, List.getElem?_eq_getElem hj, Option.bind_some, cl0 _ hy, gr2 (b.take j) (by simp; omega), get_leaf]
    rw [w64 (by omega), List.take_succ_eq_append_getElem hj]
    rfl
  have fin : (gR30_0 ⟨b, (b.length : Int), (b.length : Int), m, t, a, b, c, d, b.take b.length⟩).get? = some (.inr (false, ⟨b, (b.length : Int), (b.length : Int), m, t, a, b, c, d, b.take b.length⟩)) := by
    unfold gR30_0
    simp only [get_br, decide_eq_false (show ¬ (b.length : Int) < (b.length : Int) by omega), cond_false, get_leaf]
  have key := iter_all (R := gR30_0) (fun j => W30_0.mk b (b.length : Int) (j : Nat) m t a b c d (b.take j)) b.length step fin (n := 1000000) (by omega) (v := ⟨b, (b.length : Int), 0, m, t, a, b, c, d, []⟩) rfl
  unfold g30_1 g30_1T
  rw [get_opt, key, List.take_length]
  rfl


theorem put2 (x : List S0) (m t : Bool) (a b c d : List S2) (h : c.length ≤ 200) (hb : x.length ≤ 2100) : g32_2 ⟨x, m, t, a, b, c, d⟩ = some ⟨c ++ [⟨x⟩]⟩ := by
  unfold g32_2 g32_2T
  simp only [get_br, cl2 c h, cl0 x hb, gr2 c h, cond_true, get_leaf]

theorem take2 (n : Int) (m t : Bool) (a b c d : List S2) (h : c.length ≤ 200) : g33_2 ⟨n, m, t, a, b, c, d⟩ = some (match tk c n with
    | some r => ⟨r.1, true, m, t, a, b, r.2, d⟩
    | none => ⟨[], false, m, t, a, b, c, d⟩) := by
  have step : ∀ j, j < c.length → (gR33_0v2 ⟨n, false, c, (c.length : Int), (j : Nat), m, t, a, b, c, d⟩).get? = some ((if (j : Int) = n then (tk c n).map fun r => (⟨r.1, true, m, t, a, b, r.2, d⟩ : U33_0v2) else none).elim (.inl ⟨n, false, c, (c.length : Int), ((j + 1 : Nat) : Int), m, t, a, b, c, d⟩) fun u => .inr (.inr u)) := by
    intro j hj
    unfold gR33_0v2
    simp only [get_br, decide_eq_true (show (j : Int) < (c.length : Int) by omega), decide_eq_true (show (0 : Int) ≤ (j : Int) by omega), cond_true, get_opt, Int.toNat_natCast, List.getElem?_eq_getElem hj, Option.bind_some]
    by_cases hn : (j : Int) = n
    · subst hn
      have hw : IntKind.i64.wrap ((j : Int) + 1) = ((j + 1 : Nat) : Int) := by rw [w64 (by omega)]; omega
      have hc : (decide ((j : Int) ≤ ((j + 1 : Nat) : Int)) && decide (((j + 1 : Nat) : Int) ≤ (c.length : Int)) && Nat.blt 0 c.length) = true := by
        have h0 : Nat.blt 0 c.length = true := Nat.ble_eq_true_of_le (by omega)
        rw [h0]
        simp only [Bool.and_true, Bool.and_eq_true, decide_eq_true_eq]
        omega
      simp only [bne_self_eq_false, cond_false, cl2 c h, cond_true, hw, Int.toNat_natCast, Bool.true_and, hc, get_leaf, if_true, tk_yes hj, Option.map_some, Option.elim_some]
    · have hb : ((j : Int) != n) = true := by simpa using hn
      simp only [hb, cond_true, get_leaf, if_neg hn, Option.elim_none]
      rw [w64 (by omega)]
      rfl
  have fin : (gR33_0v2 ⟨n, false, c, (c.length : Int), (c.length : Int), m, t, a, b, c, d⟩).get? = some (.inr (.inl ⟨n, false, c, (c.length : Int), (c.length : Int), m, t, a, b, c, d⟩)) := by
    unfold gR33_0v2
    simp only [get_br, decide_eq_false (show ¬ (c.length : Int) < (c.length : Int) by omega), cond_false, get_leaf]
  have key := iter2_find (R := gR33_0v2) (fun j => W33_0v2.mk n false c (c.length : Int) (j : Nat) m t a b c d) c.length (fun j => if (j : Int) = n then (tk c n).map fun r => (⟨r.1, true, m, t, a, b, r.2, d⟩ : U33_0v2) else none) step fin c.length 0 1000000 (by omega) (by omega)
  have key : iter2 gR33_0v2 1000000 ⟨n, false, c, (c.length : Int), 0, m, t, a, b, c, d⟩ = _ := key
  unfold g33_2 g33_2T
  rw [get_opt, key]
  by_cases hr : 0 ≤ n ∧ n < (c.length : Int)
  · obtain ⟨q, rfl⟩ : ∃ q : Nat, n = q := ⟨n.toNat, by omega⟩
    have hq : q < c.length := by omega
    rw [firstP_at c.length 0 q (by omega) (by omega) (u := (⟨c[q].f0, true, m, t, a, b, (c.take q ++ c.drop (q + 1)), d⟩ : U33_0v2)) (by simp only [if_true, tk_yes hq, Option.map_some]) (fun i _ hi => by
      have hne : ¬ ((i : Int) = (q : Int)) := by omega
      simp only [if_neg hne]), tk_yes hq]
    rfl
  · have hno : tk c n = none := tk_no (by omega)
    rw [firstP_none (fun q _ hq => by
      have hne : ¬ ((q : Int) = n) := by omega
      simp only [if_neg hne]), hno]
    rfl

theorem all2 (m t : Bool) (a b c d : List S2) (h : c.length ≤ 200) (hs : Sz c) : g30_2 ⟨m, t, a, b, c, d⟩ = some ⟨c, m, t, a, b, c, d⟩ := by
  have step : ∀ j, j < c.length → (gR30_0 ⟨c, (c.length : Int), (j : Nat), m, t, a, b, c, d, c.take j⟩).get? = some (.inl ⟨c, (c.length : Int), ((j + 1 : Nat) : Int), m, t, a, b, c, d, c.take (j + 1)⟩) := by
    intro j hj
    have hy : c[j].f0.length ≤ 2100 := hs _ (List.getElem_mem hj)
    unfold gR30_0
    simp only [get_br, decide_eq_true (show (j : Int) < (c.length : Int) by omega), decide_eq_true (show (0 : Int) ≤ (j : Int) by omega), cond_true, get_opt, Int.toNat_natCast, List.getElem?_eq_getElem hj, Option.bind_some, cl0 _ hy, gr2 (c.take j) (by simp; omega), get_leaf]
    rw [w64 (by omega), List.take_succ_eq_append_getElem hj]
    rfl
  have fin : (gR30_0 ⟨c, (c.length : Int), (c.length : Int), m, t, a, b, c, d, c.take c.length⟩).get? = some (.inr (false, ⟨c, (c.length : Int), (c.length : Int), m, t, a, b, c, d, c.take c.length⟩)) := by
    unfold gR30_0
    simp only [get_br, decide_eq_false (show ¬ (c.length : Int) < (c.length : Int) by omega), cond_false, get_leaf]
  have key := iter_all (R := gR30_0) (fun j => W30_0.mk c (c.length : Int) (j : Nat) m t a b c d (c.take j)) c.length step fin (n := 1000000) (by omega) (v := ⟨c, (c.length : Int), 0, m, t, a, b, c, d, []⟩) rfl
  unfold g30_2 g30_2T
  rw [get_opt, key, List.take_length]
  rfl


theorem put3 (x : List S0) (m t : Bool) (a b c d : List S2) (h : d.length ≤ 200) (hb : x.length ≤ 2100) : g32_3 ⟨x, m, t, a, b, c, d⟩ = some ⟨d ++ [⟨x⟩]⟩ := by
  unfold g32_3 g32_3T
  simp only [get_br, cl2 d h, cl0 x hb, gr2 d h, cond_true, get_leaf]

theorem take3 (n : Int) (m t : Bool) (a b c d : List S2) (h : d.length ≤ 200) : g33_3 ⟨n, m, t, a, b, c, d⟩ = some (match tk d n with
    | some r => ⟨r.1, true, m, t, a, b, c, r.2⟩
    | none => ⟨[], false, m, t, a, b, c, d⟩) := by
  have step : ∀ j, j < d.length → (gR33_0v3 ⟨n, false, d, (d.length : Int), (j : Nat), m, t, a, b, c, d⟩).get? = some ((if (j : Int) = n then (tk d n).map fun r => (⟨r.1, true, m, t, a, b, c, r.2⟩ : U33_0v3) else none).elim (.inl ⟨n, false, d, (d.length : Int), ((j + 1 : Nat) : Int), m, t, a, b, c, d⟩) fun u => .inr (.inr u)) := by
    intro j hj
    unfold gR33_0v3
    simp only [get_br, decide_eq_true (show (j : Int) < (d.length : Int) by omega), decide_eq_true (show (0 : Int) ≤ (j : Int) by omega), cond_true, get_opt, Int.toNat_natCast, List.getElem?_eq_getElem hj, Option.bind_some]
    by_cases hn : (j : Int) = n
    · subst hn
      have hw : IntKind.i64.wrap ((j : Int) + 1) = ((j + 1 : Nat) : Int) := by rw [w64 (by omega)]; omega
      have hc : (decide ((j : Int) ≤ ((j + 1 : Nat) : Int)) && decide (((j + 1 : Nat) : Int) ≤ (d.length : Int)) && Nat.blt 0 d.length) = true := by
        have h0 : Nat.blt 0 d.length = true := Nat.ble_eq_true_of_le (by omega)
        rw [h0]
        simp only [Bool.and_true, Bool.and_eq_true, decide_eq_true_eq]
        omega
      simp only [bne_self_eq_false, cond_false, cl2 d h, cond_true, hw, Int.toNat_natCast, Bool.true_and, hc, get_leaf, if_true, tk_yes hj, Option.map_some, Option.elim_some]
    · have hb : ((j : Int) != n) = true := by simpa using hn
      simp only [hb, cond_true, get_leaf, if_neg hn, Option.elim_none]
      rw [w64 (by omega)]
      rfl
  have fin : (gR33_0v3 ⟨n, false, d, (d.length : Int), (d.length : Int), m, t, a, b, c, d⟩).get? = some (.inr (.inl ⟨n, false, d, (d.length : Int), (d.length : Int), m, t, a, b, c, d⟩)) := by
    unfold gR33_0v3
    simp only [get_br, decide_eq_false (show ¬ (d.length : Int) < (d.length : Int) by omega), cond_false, get_leaf]
  have key := iter2_find (R := gR33_0v3) (fun j => W33_0v3.mk n false d (d.length : Int) (j : Nat) m t a b c d) d.length (fun j => if (j : Int) = n then (tk d n).map fun r => (⟨r.1, true, m, t, a, b, c, r.2⟩ : U33_0v3) else none) step fin d.length 0 1000000 (by omega) (by omega)
  have key : iter2 gR33_0v3 1000000 ⟨n, false, d, (d.length : Int), 0, m, t, a, b, c, d⟩ = _ := key
  unfold g33_3 g33_3T
  rw [get_opt, key]
  by_cases hr : 0 ≤ n ∧ n < (d.length : Int)
  · obtain ⟨q, rfl⟩ : ∃ q : Nat, n = q := ⟨n.toNat, by omega⟩
    have hq : q < d.length := by omega
    rw [firstP_at d.length 0 q (by omega) (by omega) (u := (⟨d[q].f0, true, m, t, a, b, c, (d.take q ++ d.drop (q + 1))⟩ : U33_0v3)) (by simp only [if_true, tk_yes hq, Option.map_some]) (fun i _ hi => by
      have hne : ¬ ((i : Int) = (q : Int)) := by omega
      simp only [if_neg hne]), tk_yes hq]
    rfl
  · have hno : tk d n = none := tk_no (by omega)
    rw [firstP_none (fun q _ hq => by
      have hne : ¬ ((q : Int) = n) := by omega
      simp only [if_neg hne]), hno]
    rfl

theorem all3 (m t : Bool) (a b c d : List S2) (h : d.length ≤ 200) (hs : Sz d) : g30_3 ⟨m, t, a, b, c, d⟩ = some ⟨d, m, t, a, b, c, d⟩ := by
  have step : ∀ j, j < d.length → (gR30_0 ⟨d, (d.length : Int), (j : Nat), m, t, a, b, c, d, d.take j⟩).get? = some (.inl ⟨d, (d.length : Int), ((j + 1 : Nat) : Int), m, t, a, b, c, d, d.take (j + 1)⟩) := by
    intro j hj
    have hy : d[j].f0.length ≤ 2100 := hs _ (List.getElem_mem hj)
    unfold gR30_0
    simp only [get_br, decide_eq_true (show (j : Int) < (d.length : Int) by omega), decide_eq_true (show (0 : Int) ≤ (j : Int) by omega), cond_true, get_opt, Int.toNat_natCast, List.getElem?_eq_getElem hj, Option.bind_some, cl0 _ hy, gr2 (d.take j) (by simp; omega), get_leaf]
    rw [w64 (by omega), List.take_succ_eq_append_getElem hj]
    rfl
  have fin : (gR30_0 ⟨d, (d.length : Int), (d.length : Int), m, t, a, b, c, d, d.take d.length⟩).get? = some (.inr (false, ⟨d, (d.length : Int), (d.length : Int), m, t, a, b, c, d, d.take d.length⟩)) := by
    unfold gR30_0
    simp only [get_br, decide_eq_false (show ¬ (d.length : Int) < (d.length : Int) by omega), cond_false, get_leaf]
  have key := iter_all (R := gR30_0) (fun j => W30_0.mk d (d.length : Int) (j : Nat) m t a b c d (d.take j)) d.length step fin (n := 1000000) (by omega) (v := ⟨d, (d.length : Int), 0, m, t, a, b, c, d, []⟩) rfl
  unfold g30_3 g30_3T
  rw [get_opt, key, List.take_length]
  rfl

end Ab25
