/- Seat 25: the plain laws: call by call. -/
import Derived.Test.YtdflhpknkcjfpaaAb25e
set_option maxRecDepth 100000
set_option maxHeartbeats 1000000
set_option linter.unusedVariables false
set_option linter.unusedSimpArgs false
namespace Ab25
open Go Ab

theorem dirs (x : Int) : x = 0 ∨ x = 1 ∨ ((x == 0) = false ∧ (x == 1) = false) := by
  by_cases h0 : x = 0
  · exact .inl h0
  · by_cases h1 : x = 1
    · exact .inr (.inl h1)
    · exact .inr (.inr ⟨by simpa using h0, by simpa using h1⟩)

theorem may_no {x : Int} (h : (x == 0) = false ∧ (x == 1) = false) (t : Bool) (a b c d : List S2) : g31_0 ⟨⟨true, t, a, b, c, d⟩, x⟩ = ⟨5⟩ := by
  unfold g31_0 g31_0T
  simp only [g34_0, g34_0T, g29_0, g29_0T, gett_br, gett_leaf, h.1, h.2, Bool.not_true, Bool.not_false, cond_true, cond_false]
theorem is_no {x : Int} (h : (x == 0) = false ∧ (x == 1) = false) (t : Bool) (a b c d : List S2) : g29_0 ⟨⟨true, t, a, b, c, d⟩, x⟩ = ⟨false⟩ := by
  unfold g29_0 g29_0T
  simp only [g34_0, g34_0T, gett_leaf, h.1, h.2, Bool.not_true, Bool.not_false, cond_true, cond_false]
theorem of_no {x : Int} (h : (x == 0) = false ∧ (x == 1) = false) (W : S7) : g36 W x = ⟨[], []⟩ := by
  unfold g36 g36T
  simp only [gett_br, gett_leaf, h.1, h.2, cond_false]
theorem ok_no {x : Int} (h : (x == 0) = false ∧ (x == 1) = false) : g37 x = false := by
  unfold g37 g37T
  simp only [gett_leaf, h.1, h.2, cond_false]

theorem opData (x : Int) (v : List S0) (hv : v.length ≤ 2100) (t : Bool) (a b c d : List S2) (k : Nat) (h : Inv a b c d k) :
    ∃ e a' b', g11_1 ⟨x, v, true, t, a, b, c, d⟩ = some ⟨e, a', b'⟩ ∧ g20 (R t a b c d) x v = some (R t a' b' c d, e) ∧ Inv a' b' c d k := by
  rcases dirs x with rfl | rfl | hx
  · cases t with
    | true => exact ⟨250, a, b, rfl, rfl, h⟩
    | false =>
      by_cases h1 : v.length > 2048
      · refine ⟨2, a, b, ?_, ?_, h⟩
        · unfold g11_1 g11_1T
          simp only [get_br, decide_eq_true (show (v.length : Int) > 2048 by omega)]; rfl
        · unfold g20 g20T
          simp only [get_br, decide_eq_true (show (v.length : Int) > 2048 by omega)]; rfl
      · by_cases h2 : a.length ≥ 32
        · refine ⟨3, a, b, ?_, ?_, h⟩
          · unfold g11_1 g11_1T
            simp only [get_br, decide_eq_false (show ¬ (v.length : Int) > 2048 by omega), decide_eq_true (show (a.length : Int) ≥ 32 by omega)]; rfl
          · unfold g20 g20T
            simp only [get_br, decide_eq_false (show ¬ (v.length : Int) > 2048 by omega)]
            show (bif decide ((a.length : Int) ≥ 32) then _ else _) = _
            rw [decide_eq_true (show (a.length : Int) ≥ 32 by omega)]; rfl
        · refine ⟨0, a ++ [⟨v⟩], b, ?_, ?_, ⟨by simp; omega, h.lb, h.lc, h.ld, h.sa.put hv, h.sb, h.sc, h.sd⟩⟩
          · unfold g11_1 g11_1T
            simp only [get_br, decide_eq_false (show ¬ (v.length : Int) > 2048 by omega), decide_eq_false (show ¬ (a.length : Int) ≥ 32 by omega), put0 v true false a b c d (by omega) hv, get_optS]; rfl
          · unfold g20 g20T
            simp only [get_br, decide_eq_false (show ¬ (v.length : Int) > 2048 by omega)]
            show (bif decide ((a.length : Int) ≥ 32) then _ else (Tr.opt (g38 a v) _).get?) = _
            rw [decide_eq_false (show ¬ (a.length : Int) ≥ 32 by omega), more a v (by omega) hv]; rfl
  · cases t with
    | true => exact ⟨250, a, b, rfl, rfl, h⟩
    | false =>
      by_cases h1 : v.length > 2048
      · refine ⟨2, a, b, ?_, ?_, h⟩
        · unfold g11_1 g11_1T
          simp only [get_br, decide_eq_true (show (v.length : Int) > 2048 by omega)]; rfl
        · unfold g20 g20T
          simp only [get_br, decide_eq_true (show (v.length : Int) > 2048 by omega)]; rfl
      · by_cases h2 : b.length ≥ 32
        · refine ⟨3, a, b, ?_, ?_, h⟩
          · unfold g11_1 g11_1T
            simp only [get_br, decide_eq_false (show ¬ (v.length : Int) > 2048 by omega), decide_eq_true (show (b.length : Int) ≥ 32 by omega)]; rfl
          · unfold g20 g20T
            simp only [get_br, decide_eq_false (show ¬ (v.length : Int) > 2048 by omega)]
            show (bif decide ((b.length : Int) ≥ 32) then _ else _) = _
            rw [decide_eq_true (show (b.length : Int) ≥ 32 by omega)]; rfl
        · refine ⟨0, a, b ++ [⟨v⟩], ?_, ?_, ⟨h.la, by simp; omega, h.lc, h.ld, h.sa, h.sb.put hv, h.sc, h.sd⟩⟩
          · unfold g11_1 g11_1T
            simp only [get_br, decide_eq_false (show ¬ (v.length : Int) > 2048 by omega), decide_eq_false (show ¬ (b.length : Int) ≥ 32 by omega), put1 v true false a b c d (by omega) hv, get_optS]; rfl
          · unfold g20 g20T
            simp only [get_br, decide_eq_false (show ¬ (v.length : Int) > 2048 by omega)]
            show (bif decide ((b.length : Int) ≥ 32) then _ else (Tr.opt (g38 b v) _).get?) = _
            rw [decide_eq_false (show ¬ (b.length : Int) ≥ 32 by omega), more b v (by omega) hv]; rfl
  · refine ⟨5, a, b, ?_, ?_, h⟩
    · unfold g11_1 g11_1T
      simp only [get_br, may_no hx]; rfl
    · unfold g20 g20T
      simp only [get_br, ok_no hx]; rfl

theorem opSay (x : Int) (v : List S0) (hv : v.length ≤ 2100) (t : Bool) (a b c d : List S2) (k : Nat) (hk : k ≤ 80) (h : Inv a b c d k) :
    ∃ e c' d', g14_0 ⟨x, v, true, t, a, b, c, d⟩ = some ⟨e, c', d'⟩ ∧ g23 (R t a b c d) x v = some (R t a b c' d', e) ∧ Inv a b c' d' (k + 1) := by
  have hc := h.lc; have hd := h.ld
  rcases dirs x with rfl | rfl | hx
  · cases t with
    | true => exact ⟨250, c, d, rfl, rfl, h.up⟩
    | false =>
      refine ⟨0, c ++ [⟨v⟩], d, ?_, ?_, ⟨h.la, h.lb, by simp; omega, by omega, h.sa, h.sb, h.sc.put hv, h.sd⟩⟩
      · show (Tr.opt (g32_2 ⟨v, true, false, a, b, c, d⟩) _).get? = _
        rw [put2 v true false a b c d (by omega) hv]; rfl
      · show (Tr.opt (g38 c v) _).get? = _
        rw [more c v (by omega) hv]; rfl
  · cases t with
    | true => exact ⟨250, c, d, rfl, rfl, h.up⟩
    | false =>
      refine ⟨0, c, d ++ [⟨v⟩], ?_, ?_, ⟨h.la, h.lb, by omega, by simp; omega, h.sa, h.sb, h.sc, h.sd.put hv⟩⟩
      · show (Tr.opt (g32_3 ⟨v, true, false, a, b, c, d⟩) _).get? = _
        rw [put3 v true false a b c d (by omega) hv]; rfl
      · show (Tr.opt (g38 d v) _).get? = _
        rw [more d v (by omega) hv]; rfl
  · refine ⟨5, c, d, ?_, ?_, h.up⟩
    · unfold g14_0 g14_0T
      simp only [get_br, may_no hx]; rfl
    · unfold g23 g23T
      simp only [get_br, ok_no hx]; rfl

theorem opTake (x n : Int) (t : Bool) (a b c d : List S2) (k : Nat) (h : Inv a b c d k) :
    ∃ y ok a' b', g12_0 ⟨x, n, true, t, a, b, c, d⟩ = some ⟨y, ok, true, t, a', b', c, d⟩ ∧ g21 (R t a b c d) x n = some (R t a' b' c d, y, ok) ∧ Inv a' b' c d k := by
  have ha := h.la; have hb := h.lb
  rcases dirs x with rfl | rfl | hx
  · have e1 : g12_0 ⟨0, n, true, t, a, b, c, d⟩ = (Tr.opt (g33_0 ⟨n, true, t, a, b, c, d⟩) fun z => .leaf (⟨z.b0, z.b1, z.b2, z.b3, z.b4, z.b5, z.b6, z.b7⟩ : Y12_0)).get? := rfl
    rw [e1, take0 n true t a b c d (by omega), refTake (R t a b c d) 0 n (show a.length ≤ 200 by omega)]
    rw [show (g36 (R t a b c d) 0).f0 = a from rfl]
    cases hr : tk a n with
    | none => exact ⟨[], false, a, b, rfl, rfl, h⟩
    | some r =>
      obtain ⟨h1, h2, _⟩ := tk_len hr
      exact ⟨r.1, true, r.2, b, rfl, rfl, ⟨by omega, hb, h.lc, h.ld, (h2 h.sa).2, h.sb, h.sc, h.sd⟩⟩
  · have e1 : g12_0 ⟨1, n, true, t, a, b, c, d⟩ = (Tr.opt (g33_1 ⟨n, true, t, a, b, c, d⟩) fun z => .leaf (⟨z.b0, z.b1, z.b2, z.b3, z.b4, z.b5, z.b6, z.b7⟩ : Y12_0)).get? := rfl
    rw [e1, take1 n true t a b c d (by omega), refTake (R t a b c d) 1 n (show b.length ≤ 200 by omega)]
    rw [show (g36 (R t a b c d) 1).f0 = b from rfl]
    cases hr : tk b n with
    | none => exact ⟨[], false, a, b, rfl, rfl, h⟩
    | some r =>
      obtain ⟨h1, h2, _⟩ := tk_len hr
      exact ⟨r.1, true, a, r.2, rfl, rfl, ⟨ha, by omega, h.lc, h.ld, h.sa, (h2 h.sb).2, h.sc, h.sd⟩⟩
  · refine ⟨[], false, a, b, ?_, ?_, h⟩
    · unfold g12_0 g12_0T
      simp only [get_br, is_no hx]; rfl
    · rw [refTake _ _ _ (by rw [of_no hx]; simp), of_no hx, tk_no (X := []) (by simp; omega)]

theorem opHear (x : Int) (t : Bool) (a b c d : List S2) (k : Nat) (hk : k ≤ 80) (h : Inv a b c d k) :
    ∃ y ok c' d', g15_0 ⟨x, true, t, a, b, c, d⟩ = some ⟨y, ok, true, t, a, b, c', d'⟩ ∧ g24 (R t a b c d) x = some (R t a b c' d', y, ok) ∧ Inv a b c' d' k := by
  have hc := h.lc; have hd := h.ld
  rcases dirs x with rfl | rfl | hx
  · have e1 : g15_0 ⟨0, true, t, a, b, c, d⟩ = (Tr.opt (g33_2 ⟨0, true, t, a, b, c, d⟩) fun z => .leaf (⟨z.b0, z.b1, z.b2, z.b3, z.b4, z.b5, z.b6, z.b7⟩ : Y15_0)).get? := rfl
    rw [e1, take2 0 true t a b c d (by omega), refHear (R t a b c d) 0 (show c.length ≤ 200 by omega)]
    rw [show (g36 (R t a b c d) 0).f1 = c from rfl]
    cases hr : tk c 0 with
    | none => exact ⟨[], false, c, d, rfl, rfl, h⟩
    | some r =>
      obtain ⟨h1, h2, _⟩ := tk_len hr
      exact ⟨r.1, true, r.2, d, rfl, rfl, ⟨h.la, h.lb, by omega, hd, h.sa, h.sb, (h2 h.sc).2, h.sd⟩⟩
  · have e1 : g15_0 ⟨1, true, t, a, b, c, d⟩ = (Tr.opt (g33_3 ⟨0, true, t, a, b, c, d⟩) fun z => .leaf (⟨z.b0, z.b1, z.b2, z.b3, z.b4, z.b5, z.b6, z.b7⟩ : Y15_0)).get? := rfl
    rw [e1, take3 0 true t a b c d (by omega), refHear (R t a b c d) 1 (show d.length ≤ 200 by omega)]
    rw [show (g36 (R t a b c d) 1).f1 = d from rfl]
    cases hr : tk d 0 with
    | none => exact ⟨[], false, c, d, rfl, rfl, h⟩
    | some r =>
      obtain ⟨h1, h2, _⟩ := tk_len hr
      exact ⟨r.1, true, c, r.2, rfl, rfl, ⟨h.la, h.lb, hc, by omega, h.sa, h.sb, h.sc, (h2 h.sd).2⟩⟩
  · refine ⟨[], false, c, d, ?_, ?_, h⟩
    · unfold g15_0 g15_0T
      simp only [get_br, is_no hx]; rfl
    · rw [refHear _ _ (by rw [of_no hx]; simp), of_no hx]; rfl
end Ab25
