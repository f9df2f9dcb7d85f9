/- Seat 25: the plain laws: each call makes of a link what the document's makes of its own. -/
import Derived.Test.YtdflhpknkcjfpaaAb25d
set_option maxRecDepth 100000
set_option maxHeartbeats 1000000
set_option linter.unusedVariables false
set_option linter.unusedSimpArgs false
namespace Ab25
open Go Ab

structure Inv (a b c d : List S2) (k : Nat) : Prop where
  la : a.length ≤ 32
  lb : b.length ≤ 32
  lc : c.length ≤ k
  ld : d.length ≤ k
  sa : Sz a
  sb : Sz b
  sc : Sz c
  sd : Sz d
theorem Inv.up {a b c d : List S2} {k : Nat} (h : Inv a b c d k) : Inv a b c d (k + 1) := ⟨h.la, h.lb, by have := h.lc; omega, by have := h.ld; omega, h.sa, h.sb, h.sc, h.sd⟩

/-- The document's link. -/
def R (dn : Bool) (a b c d : List S2) : S7 := ⟨!dn, a, c, b, d⟩

theorem Sz.put {l : List S2} (h : Sz l) {x : List S0} (hx : x.length ≤ 2100) : Sz (l ++ [⟨x⟩]) := by
  intro y hy
  rcases List.mem_append.mp hy with hy | hy
  · exact h y hy
  · simp at hy; subst hy; exact hx
theorem tk_len {X : List S2} {n : Int} {r : List S0 × List S2} (h : tk X n = some r) : r.2.length ≤ X.length ∧ (Sz X → r.1.length ≤ 2100 ∧ Sz r.2) ∧ 0 ≤ n ∧ n < X.length := by
  unfold tk at h
  split at h
  · rename_i hn
    obtain ⟨y, hy, rfl⟩ := Option.map_eq_some_iff.mp h
    have hlt := (List.getElem?_eq_some_iff.mp hy).1
    refine ⟨by simp; omega, fun hs => ⟨hs _ (List.mem_of_getElem? hy), fun z hz => ?_⟩, hn, by omega⟩
    rcases List.mem_append.mp hz with hz | hz
    · exact hs z (List.mem_of_mem_take hz)
    · exact hs z (List.mem_of_mem_drop hz)
  · cases h

theorem more (l : List S2) (x : List S0) (h : l.length ≤ 200) (hx : x.length ≤ 2100) : g38 l x = some (l ++ [⟨x⟩]) := by
  have h1 : (Nat.ble (0 + x.length) 140737488355328 && Nat.ble ((0 + x.length) * 1) 140737488355328) = true := by
    simp only [Bool.and_eq_true, Nat.ble_eq]; omega
  have h2 : (Nat.ble (0 + l.length) 140737488355328 && Nat.ble ((0 + l.length) * 24) 140737488355328) = true := by
    simp only [Bool.and_eq_true, Nat.ble_eq]; omega
  unfold g38 g38T
  simp only [get_br, get_leaf, h1, h2, gr2 l h, cond_true]
  cases l with
  | nil => cases x <;> rfl
  | cons y l => cases x <;> rfl

theorem refTake (W : S7) (d n : Int) (h : (g36 W d).f0.length ≤ 200) : g21 W d n = some (match tk (g36 W d).f0 n with
    | some r => (g39 W d { g36 W d with f0 := r.2 }, r.1, true)
    | none => (W, [], false)) := by
  unfold g21 g21T
  generalize hz : g36 W d = z at h
  obtain ⟨X, M⟩ := z
  simp only at h
  by_cases hr : 0 ≤ n ∧ n < (X.length : Int)
  · obtain ⟨q, rfl⟩ : ∃ q : Nat, n = q := ⟨n.toNat, by omega⟩
    have hq : q < X.length := by omega
    have hw : IntKind.i64.wrap ((q : Int) + 1) = ((q + 1 : Nat) : Int) := by rw [w64 (by omega)]; omega
    rw [tk_yes hq]
    have e1 : (Nat.ble (0 + (X.drop (q + 1)).length) 140737488355328 && Nat.ble ((0 + (X.drop (q + 1)).length) * 24) 140737488355328) = true := by
      simp only [Bool.and_eq_true, Nat.ble_eq, List.length_drop]; omega
    have e2 : (Nat.ble (0 + (X.take q).length) 140737488355328 && Nat.ble ((0 + (X.take q).length) * 24) 140737488355328) = true := by
      simp only [Bool.and_eq_true, Nat.ble_eq, List.length_take]; omega
    have e3 : (Nat.ble ((X.take q).length + (X.drop (q + 1)).length) 140737488355328 && Nat.ble (((X.take q).length + (X.drop (q + 1)).length) * 24) 140737488355328) = true := by
      simp only [Bool.and_eq_true, Nat.ble_eq, List.length_take, List.length_drop]; omega
    simp only [get_br, get_opt, get_leaf, hw, Int.toNat_natCast, decide_eq_false (show ¬ (q : Int) < 0 by omega), decide_eq_false (show ¬ (q : Int) ≥ (X.length : Int) by omega), decide_eq_true (show (0 : Int) ≤ (q : Int) by omega), decide_eq_true (show (q : Int) ≤ (X.length : Int) by omega),
      decide_eq_true (show (0 : Int) ≤ ((q + 1 : Nat) : Int) by omega), decide_eq_true (show ((q + 1 : Nat) : Int) ≤ (X.length : Int) by omega), cond_true, cond_false, Bool.and_self, List.getElem?_eq_getElem hq, Option.bind_some, e1, e2, e3]
    cases h1 : X.take q <;> cases h2 : X.drop (q + 1) <;> first | rfl | (rw [List.append_nil]; rfl)
  · have hno : tk X n = none := tk_no (by omega)
    simp only [hno]
    have hc : (bif (decide (n < 0)) then true else (decide (n ≥ (X.length : Int)))) = true := by
      by_cases h0 : n < 0
      · simp [h0]
      · have : n ≥ (X.length : Int) := by omega
        simp [this]
    simp only [get_br, hc, cond_true, get_leaf]

theorem refHear (W : S7) (d : Int) (h : (g36 W d).f1.length ≤ 200) : g24 W d = some (match tk (g36 W d).f1 0 with
    | some r => (g39 W d { g36 W d with f1 := r.2 }, r.1, true)
    | none => (W, [], false)) := by
  unfold g24 g24T
  generalize hz : g36 W d = z at h
  obtain ⟨M, X⟩ := z
  simp only at h
  cases X with
  | nil => rfl
  | cons y X =>
    have ht : tk (y :: X) 0 = some (y.f0, X) := rfl
    have e0 : (((y :: X).length : Int) == 0) = false := by simp; omega
    have e1 : (decide ((0 : Nat) ≤ 1) && decide (1 ≤ ((y :: X).length : Int))) = true := by simp; omega
    have e2 : (Nat.ble (0 + (List.drop (Int.toNat 1) (y :: X)).length) 140737488355328 && Nat.ble ((0 + (List.drop (Int.toNat 1) (y :: X)).length) * 24) 140737488355328) = true := by
      simp only [Bool.and_eq_true, Nat.ble_eq]
      simp at h ⊢; omega
    simp only [get_br, e0, cond_false, get_opt, ht]
    rw [show (y :: X)[0]? = some y from rfl, Option.bind_some, e1]
    simp only [e2, cond_true, get_leaf]
    cases X <;> rfl

theorem ran (W : S7) (d n : Int) : (bif (decide (n < 0)) then true else (decide (n ≥ ((g36 W d).f0.length : Int)))) = !(decide (0 ≤ n) && decide (n < ((g36 W d).f0.length : Int))) := by
  by_cases h0 : n < 0
  · simp [h0]
  · by_cases h1 : n ≥ ((g36 W d).f0.length : Int)
    · simp [h0, h1, show 0 ≤ n by omega]
    · simp [h0, h1, show 0 ≤ n by omega]; omega

theorem refTwin (W : S7) (d n : Int) (h : (g36 W d).f0.length ≤ 32) (hs : Sz (g36 W d).f0) : g22 W d n = some (match tk (g36 W d).f0 n with
    | some r => if (g36 W d).f0.length ≥ 32 then (W, 3) else (g39 W d { g36 W d with f0 := (g36 W d).f0 ++ [⟨r.1⟩] }, 0)
    | none => (W, 5)) := by
  unfold g22 g22T
  generalize hz : g36 W d = z at h hs
  obtain ⟨X, M⟩ := z
  simp only at h hs
  by_cases hr : 0 ≤ n ∧ n < (X.length : Int)
  · obtain ⟨q, rfl⟩ : ∃ q : Nat, n = q := ⟨n.toNat, by omega⟩
    have hq : q < X.length := by omega
    rw [tk_yes hq]
    simp only [get_br, get_opt, get_leaf, Int.toNat_natCast, decide_eq_false (show ¬ (q : Int) < 0 by omega), decide_eq_false (show ¬ (q : Int) ≥ (X.length : Int) by omega), decide_eq_true (show (0 : Int) ≤ (q : Int) by omega), cond_true, cond_false, List.getElem?_eq_getElem hq, Option.bind_some, more X X[q].f0 (by omega) (hs _ (List.getElem_mem hq))]
    by_cases h32 : X.length ≥ 32
    · rw [if_pos h32, decide_eq_true (show (X.length : Int) ≥ 32 by omega)]; rfl
    · rw [if_neg h32, decide_eq_false (show ¬ (X.length : Int) ≥ 32 by omega)]; rfl
  · have hno : tk X n = none := tk_no (by omega)
    simp only [hno]
    have hc : (bif (decide (n < 0)) then true else (decide (n ≥ (X.length : Int)))) = true := by
      by_cases h0 : n < 0
      · simp [h0]
      · have : n ≥ (X.length : Int) := by omega
        simp [this]
    simp only [get_br, hc, cond_true, get_leaf]
end Ab25
