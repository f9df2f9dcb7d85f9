/- Seat 25: the plain laws: a link is the document's, whatever calls there are. -/
import Derived.Test.YtdflhpknkcjfpaaAb25f
set_option maxRecDepth 100000
set_option maxHeartbeats 1000000
set_option linter.unusedVariables false
set_option linter.unusedSimpArgs false
namespace Ab25
open Go Ab

theorem has_yes {X : List S2} {n : Int} (h : 0 ≤ n ∧ n < (X.length : Int)) : (bif (decide (n ≥ 0)) then (decide (n < (X.length : Int))) else false) = true := by
  rw [decide_eq_true (show n ≥ 0 from h.1), decide_eq_true h.2]; rfl
theorem has_no {X : List S2} {n : Int} (h : ¬ (0 ≤ n ∧ n < (X.length : Int))) : (bif (decide (n ≥ 0)) then (decide (n < (X.length : Int))) else false) = false := by
  by_cases h0 : n ≥ 0
  · rw [decide_eq_true h0, decide_eq_false (by omega)]; rfl
  · rw [decide_eq_false h0]; rfl

theorem opTwin (x n : Int) (t : Bool) (a b c d : List S2) (k : Nat) (h : Inv a b c d k) :
    ∃ e a' b', g13_0 ⟨x, n, true, t, a, b, c, d⟩ = some ⟨e, a', b'⟩ ∧ g22 (R t a b c d) x n = some (R t a' b' c d, e) ∧ Inv a' b' c d k := by
  have ha := h.la; have hb := h.lb
  rcases dirs x with rfl | rfl | hx
  · have e1 : g13_0 ⟨0, n, true, t, a, b, c, d⟩ = (Tr.br (!(bif (decide (n ≥ 0)) then (decide (n < (a.length : Int))) else false)) (.leaf (⟨5, a, b⟩ : Y13_0)) (.br (decide ((a.length : Int) ≥ 32)) (.leaf ⟨3, a, b⟩) (.br (decide (0 ≤ n)) (.opt (a[Int.toNat n]?) fun y => .opt (g32_0 ⟨y.f0, true, t, a, b, c, d⟩) fun z => .leaf ⟨0, z.b0, b⟩) .fail))).get? := rfl
    rw [e1, refTwin (R t a b c d) 0 n (show a.length ≤ 32 from ha) (show Sz a from h.sa), show (g36 (R t a b c d) 0).f0 = a from rfl]
    by_cases hn : 0 ≤ n ∧ n < (a.length : Int)
    · obtain ⟨q, rfl⟩ : ∃ q : Nat, n = q := ⟨n.toNat, by omega⟩
      have hq : q < a.length := by omega
      have hy := h.sa _ (List.getElem_mem hq)
      simp only [get_br, has_yes hn, tk_yes hq]
      by_cases h32 : a.length ≥ 32
      · rw [decide_eq_true (show (a.length : Int) ≥ 32 by omega)]
        exact ⟨3, a, b, rfl, by rw [if_pos h32], h⟩
      · rw [decide_eq_false (show ¬ (a.length : Int) ≥ 32 by omega), decide_eq_true hn.1]
        refine ⟨0, a ++ [⟨a[q].f0⟩], b, ?_, by rw [if_neg h32]; rfl, ⟨by simp; omega, hb, h.lc, h.ld, h.sa.put hy, h.sb, h.sc, h.sd⟩⟩
        simp only [Int.toNat_natCast, List.getElem?_eq_getElem hq, get_optS, put0 a[q].f0 true t a b c d (by omega) hy, get_leaf]; rfl
    · have hno : tk a n = none := tk_no (by omega)
      simp only [get_br, has_no hn, hno]
      exact ⟨5, a, b, rfl, rfl, h⟩
  · have e1 : g13_0 ⟨1, n, true, t, a, b, c, d⟩ = (Tr.br (!(bif (decide (n ≥ 0)) then (decide (n < (b.length : Int))) else false)) (.leaf (⟨5, a, b⟩ : Y13_0)) (.br (decide ((b.length : Int) ≥ 32)) (.leaf ⟨3, a, b⟩) (.br (decide (0 ≤ n)) (.opt (b[Int.toNat n]?) fun y => .opt (g32_1 ⟨y.f0, true, t, a, b, c, d⟩) fun z => .leaf ⟨0, a, z.b0⟩) .fail))).get? := rfl
    rw [e1, refTwin (R t a b c d) 1 n (show b.length ≤ 32 from hb) (show Sz b from h.sb), show (g36 (R t a b c d) 1).f0 = b from rfl]
    by_cases hn : 0 ≤ n ∧ n < (b.length : Int)
    · obtain ⟨q, rfl⟩ : ∃ q : Nat, n = q := ⟨n.toNat, by omega⟩
      have hq : q < b.length := by omega
      have hy := h.sb _ (List.getElem_mem hq)
      simp only [get_br, has_yes hn, tk_yes hq]
      by_cases h32 : b.length ≥ 32
      · rw [decide_eq_true (show (b.length : Int) ≥ 32 by omega)]
        exact ⟨3, a, b, rfl, by rw [if_pos h32], h⟩
      · rw [decide_eq_false (show ¬ (b.length : Int) ≥ 32 by omega), decide_eq_true hn.1]
        refine ⟨0, a, b ++ [⟨b[q].f0⟩], ?_, by rw [if_neg h32]; rfl, ⟨ha, by simp; omega, h.lc, h.ld, h.sa, h.sb.put hy, h.sc, h.sd⟩⟩
        simp only [Int.toNat_natCast, List.getElem?_eq_getElem hq, get_optS, put1 b[q].f0 true t a b c d (by omega) hy, get_leaf]; rfl
    · have hno : tk b n = none := tk_no (by omega)
      simp only [get_br, has_no hn, hno]
      exact ⟨5, a, b, rfl, rfl, h⟩
  · refine ⟨5, a, b, ?_, ?_, h⟩
    · unfold g13_0 g13_0T
      simp only [get_br, is_no hx]; rfl
    · rw [refTwin _ _ _ (by rw [of_no hx]; simp) (by rw [of_no hx]; intro y hy; simp at hy), of_no hx, tk_no (X := []) (by simp; omega)]

theorem opSet (u t : Bool) (a b c d : List S2) (k : Nat) (hk : k ≤ 80) (h : Inv a b c d k) :
    ∃ e t' a' b' c' d', g18_0 ⟨u, true, t, a, b, c, d⟩ = ⟨e, t', a', b', c', d'⟩ ∧ g19 (R t a b c d) u = (R t' a' b' c' d', e) ∧ Inv a' b' c' d' k := by
  have ha := h.la; have hb := h.lb; have hc := h.lc; have hd := h.ld
  cases u with
  | true => exact ⟨0, false, a, b, c, d, rfl, rfl, h⟩
  | false =>
    refine ⟨(a.length + c.length + b.length + d.length : Int), true, [], [], [], [], ?_, ?_, ⟨by simp, by simp, by simp, by simp, fun y hy => by simp at hy, fun y hy => by simp at hy, fun y hy => by simp at hy, fun y hy => by simp at hy⟩⟩
    · show (⟨(IntKind.i64.wrap ((IntKind.i64.wrap (0 + (IntKind.i64.wrap ((a.length : Int) + (c.length : Int))))) + (IntKind.i64.wrap ((b.length : Int) + (d.length : Int))))), true, [], [], [], []⟩ : Y18_0) = _
      rw [w64 (n := (a.length : Int) + (c.length : Int)) (by omega), w64 (n := (b.length : Int) + (d.length : Int)) (by omega), w64 (n := 0 + _) (by omega), w64 (by omega)]
      congr 1; omega
    · show ((⟨false, [], [], [], []⟩ : S7), (IntKind.i64.wrap ((IntKind.i64.wrap ((IntKind.i64.wrap ((a.length : Int) + (c.length : Int))) + (b.length : Int))) + (d.length : Int)))) = _
      rw [w64 (n := (a.length : Int) + (c.length : Int)) (by omega), w64 (n := (a.length : Int) + (c.length : Int) + (b.length : Int)) (by omega), w64 (by omega)]
      rfl

theorem ba_rfl (a : ByteArray) : (a == a) = true := by
  cases a
  show ByteArray.beq _ _ = true
  unfold ByteArray.beq
  simp

theorem same_rfl (X : List S2) (h : X.length ≤ 200) : g16 X X = some true := by
  have step : ∀ j, j < X.length → (gR16_0 ⟨X, X, false, (j : Nat)⟩).get? = some (((none : Option U16_0)).elim (.inl ⟨X, X, false, ((j + 1 : Nat) : Int)⟩) fun u => .inr (.inr u)) := by
    intro j hj
    unfold gR16_0
    simp only [get_br, get_opt, decide_eq_true (show (j : Int) < (X.length : Int) by omega), decide_eq_true (show (0 : Int) ≤ (j : Int) by omega), cond_true, Int.toNat_natCast, List.getElem?_eq_getElem hj, Option.bind_some, ba_rfl, Bool.not_true, cond_false, get_leaf]
    rw [w64 (by omega)]; rfl
  have fin : (gR16_0 ⟨X, X, false, (X.length : Int)⟩).get? = some (.inr (.inl ⟨X, X, false, (X.length : Int)⟩)) := by
    unfold gR16_0
    simp only [get_br, decide_eq_false (show ¬ (X.length : Int) < (X.length : Int) by omega), cond_false, get_leaf]
  have key := iter2_find (R := gR16_0) (fun j => W16_0.mk X X false (j : Nat)) X.length (fun _ => none) step fin X.length 0 1000000 (by omega) (by omega)
  have key : iter2 gR16_0 1000000 ⟨X, X, false, 0⟩ = _ := key
  unfold g16 g16T
  rw [get_br, bne_self_eq_false, cond_false, get_opt, key, firstP_none (fun _ _ _ => rfl)]
  rfl

theorem no1 : ((-1 : Int) == 0) = false ∧ ((-1 : Int) == 1) = false := ⟨rfl, rfl⟩

theorem same_eq (t : Bool) (a b c d : List S2) (k : Nat) (hk : k ≤ 81) (h : Inv a b c d k) : g25_0 ⟨(R t a b c d).f0, (R t a b c d).f1, (R t a b c d).f2, (R t a b c d).f3, (R t a b c d).f4, true, t, a, b, c, d⟩ = some ⟨true, true, t, a, b, c, d⟩ := by
  have ha := h.la; have hb := h.lb; have hc := h.lc; have hd := h.ld
  have l1 : g26_0 ⟨⟨true, t, a, b, c, d⟩, -1⟩ = some ⟨0⟩ := rfl
  have l2 : g26_0 ⟨⟨true, t, a, b, c, d⟩, 0⟩ = some ⟨a.length⟩ := rfl
  have l3 : g26_0 ⟨⟨true, t, a, b, c, d⟩, 1⟩ = some ⟨b.length⟩ := rfl
  have s1 : g27_0 ⟨⟨true, t, a, b, c, d⟩, -1⟩ = some ⟨0⟩ := rfl
  have s2 : g27_0 ⟨⟨true, t, a, b, c, d⟩, 0⟩ = some ⟨c.length⟩ := rfl
  have s3 : g27_0 ⟨⟨true, t, a, b, c, d⟩, 1⟩ = some ⟨d.length⟩ := rfl
  have a1 : g9_0 ⟨-1, true, t, a, b, c, d⟩ = some ⟨[], true, t, a, b, c, d⟩ := rfl
  have a2 : g9_0 ⟨0, true, t, a, b, c, d⟩ = some ⟨a, true, t, a, b, c, d⟩ := by
    show (Tr.opt (g30_0 ⟨true, t, a, b, c, d⟩) _).get? = _
    rw [all0 true t a b c d (by omega) h.sa]; rfl
  have a3 : g9_0 ⟨1, true, t, a, b, c, d⟩ = some ⟨b, true, t, a, b, c, d⟩ := by
    show (Tr.opt (g30_1 ⟨true, t, a, b, c, d⟩) _).get? = _
    rw [all1 true t a b c d (by omega) h.sb]; rfl
  have w1 : g10_0 ⟨-1, true, t, a, b, c, d⟩ = some ⟨[], true, t, a, b, c, d⟩ := rfl
  have w2 : g10_0 ⟨0, true, t, a, b, c, d⟩ = some ⟨c, true, t, a, b, c, d⟩ := by
    show (Tr.opt (g30_2 ⟨true, t, a, b, c, d⟩) _).get? = _
    rw [all2 true t a b c d (by omega) h.sc]; rfl
  have w3 : g10_0 ⟨1, true, t, a, b, c, d⟩ = some ⟨d, true, t, a, b, c, d⟩ := by
    show (Tr.opt (g30_3 ⟨true, t, a, b, c, d⟩) _).get? = _
    rw [all3 true t a b c d (by omega) h.sd]; rfl
  have r1 : g36 (R t a b c d) (-1) = ⟨[], []⟩ := rfl
  have r2 : g36 (R t a b c d) 0 = ⟨a, c⟩ := rfl
  have r3 : g36 (R t a b c d) 1 = ⟨b, d⟩ := rfl
  have z0 : ((0 : Int) != ((([] : List S2).length : Nat) : Int)) = false := rfl
  have u1 : g28_0 ⟨⟨true, t, a, b, c, d⟩⟩ = ⟨!t⟩ := rfl
  unfold g25_0 g25_0T
  rw [show S7.mk (R t a b c d).f0 (R t a b c d).f1 (R t a b c d).f2 (R t a b c d).f3 (R t a b c d).f4 = R t a b c d from rfl]
  simp only [r1, r2, r3, l1, l2, l3, s1, s2, s3, a1, a2, a3, w1, w2, w3, u1, get_optS, get_br, z0, bne_self_eq_false, Bool.not_false, Bool.not_true, cond_true, cond_false, same_rfl [] (by simp), same_rfl a (by omega), same_rfl b (by omega), same_rfl c (by omega), same_rfl d (by omega), get_leaf]
  cases t <;> rfl
end Ab25
