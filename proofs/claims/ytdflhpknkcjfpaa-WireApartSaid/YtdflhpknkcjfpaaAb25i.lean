/- Seat 25: the plain laws: WireApart (printed by apart.py). -/
import Derived.Test.YtdflhpknkcjfpaaAb25g
set_option maxRecDepth 100000
set_option maxHeartbeats 4000000
set_option linter.unusedVariables false
set_option linter.unusedSimpArgs false
namespace Ab25
open Go Ab

theorem views (a b c d : List S2) (k : Nat) (hk : k ≤ 81) (h : Inv a b c d k) :
    g9_0 ⟨0, true, false, a, b, c, d⟩ = some ⟨a, true, false, a, b, c, d⟩ ∧ g9_0 ⟨1, true, false, a, b, c, d⟩ = some ⟨b, true, false, a, b, c, d⟩ ∧
    g10_0 ⟨0, true, false, a, b, c, d⟩ = some ⟨c, true, false, a, b, c, d⟩ ∧ g10_0 ⟨1, true, false, a, b, c, d⟩ = some ⟨d, true, false, a, b, c, d⟩ ∧
    g16 a a = some true ∧ g16 b b = some true ∧ g16 c c = some true ∧ g16 d d = some true := by
  have ha := h.la; have hb := h.lb; have hc := h.lc; have hd := h.ld
  refine ⟨?_, ?_, ?_, ?_, same_rfl a (by omega), same_rfl b (by omega), same_rfl c (by omega), same_rfl d (by omega)⟩
  · show (Tr.opt (g30_0 ⟨true, false, a, b, c, d⟩) _).get? = _
    rw [all0 true false a b c d (by omega) h.sa]; rfl
  · show (Tr.opt (g30_1 ⟨true, false, a, b, c, d⟩) _).get? = _
    rw [all1 true false a b c d (by omega) h.sb]; rfl
  · show (Tr.opt (g30_2 ⟨true, false, a, b, c, d⟩) _).get? = _
    rw [all2 true false a b c d (by omega) h.sc]; rfl
  · show (Tr.opt (g30_3 ⟨true, false, a, b, c, d⟩) _).get? = _
    rw [all3 true false a b c d (by omega) h.sd]; rfl

theorem par (n : Int) : IntKind.i64.wrap (remI (IntKind.u64.wrap n) 2) = 0 ∨ IntKind.i64.wrap (remI (IntKind.u64.wrap n) 2) = 1 := by
  have h0 : 0 ≤ IntKind.u64.wrap n := by rw [wr_u64]; omega
  have h1 : remI (IntKind.u64.wrap n) 2 = IntKind.u64.wrap n % 2 := Int.tmod_eq_emod_of_nonneg h0
  rw [h1, w64 (by omega)]
  omega


theorem dat0 (v : List S0) (hv : v.length ≤ 2100) (a b c d : List S2) (k : Nat) (h : Inv a b c d k) : ∃ e a', g11_1 ⟨0, v, true, false, a, b, c, d⟩ = some ⟨e, a', b⟩ ∧ Inv a' b c d k := by
  by_cases h1 : v.length > 2048
  · refine ⟨2, a, ?_, h⟩
    unfold g11_1 g11_1T
    simp only [get_br, decide_eq_true (show (v.length : Int) > 2048 by omega)]; rfl
  · by_cases h2 : a.length ≥ 32
    · refine ⟨3, a, ?_, h⟩
      unfold g11_1 g11_1T
      simp only [get_br, decide_eq_false (show ¬ (v.length : Int) > 2048 by omega), decide_eq_true (show (a.length : Int) ≥ 32 by omega)]; rfl
    · refine ⟨0, a ++ [⟨v⟩], ?_, ⟨by simp; omega, h.lb, h.lc, h.ld, h.sa.put hv, h.sb, h.sc, h.sd⟩⟩
      unfold g11_1 g11_1T
      simp only [get_br, decide_eq_false (show ¬ (v.length : Int) > 2048 by omega), decide_eq_false (show ¬ (a.length : Int) ≥ 32 by omega), put0 v true false a b c d (by omega) hv, get_optS]; rfl

theorem tak0 (n : Int) (a b c d : List S2) (k : Nat) (h : Inv a b c d k) : ∃ y ok a', g12_0 ⟨0, n, true, false, a, b, c, d⟩ = some ⟨y, ok, true, false, a', b, c, d⟩ ∧ Inv a' b c d k := by
  have ha := h.la; have hb := h.lb
  have e1 : g12_0 ⟨0, n, true, false, a, b, c, d⟩ = (Tr.opt (g33_0 ⟨n, true, false, a, b, c, d⟩) fun z => .leaf (⟨z.b0, z.b1, z.b2, z.b3, z.b4, z.b5, z.b6, z.b7⟩ : Y12_0)).get? := rfl
  rw [e1, take0 n true false a b c d (by omega)]
  cases hr : tk a n with
  | none => exact ⟨[], false, a, rfl, h⟩
  | some r =>
    obtain ⟨h1, h2, _⟩ := tk_len hr
    exact ⟨r.1, true, r.2, rfl, ⟨by omega, h.lb, h.lc, h.ld, (h2 h.sa).2, h.sb, h.sc, h.sd⟩⟩

theorem twi0 (n : Int) (a b c d : List S2) (k : Nat) (h : Inv a b c d k) : ∃ e a', g13_0 ⟨0, n, true, false, a, b, c, d⟩ = some ⟨e, a', b⟩ ∧ Inv a' b c d k := by
  have ha := h.la; have hb := h.lb
  have e1 : g13_0 ⟨0, n, true, false, a, b, c, d⟩ = (Tr.br (!(bif (decide (n ≥ 0)) then (decide (n < (a.length : Int))) else false)) (.leaf (⟨5, a, b⟩ : Y13_0)) (.br (decide ((a.length : Int) ≥ 32)) (.leaf ⟨3, a, b⟩) (.br (decide (0 ≤ n)) (.opt (a[Int.toNat n]?) fun y => .opt (g32_0 ⟨y.f0, true, false, a, b, c, d⟩) fun z => .leaf ⟨0, z.b0, b⟩) .fail))).get? := rfl
  rw [e1]
  by_cases hn : 0 ≤ n ∧ n < (a.length : Int)
  · obtain ⟨q, rfl⟩ : ∃ q : Nat, n = q := ⟨n.toNat, by omega⟩
    have hq : q < a.length := by omega
    have hy := h.sa _ (List.getElem_mem hq)
    simp only [get_br, has_yes hn]
    by_cases h32 : a.length ≥ 32
    · rw [decide_eq_true (show (a.length : Int) ≥ 32 by omega)]
      exact ⟨3, a, rfl, h⟩
    · rw [decide_eq_false (show ¬ (a.length : Int) ≥ 32 by omega), decide_eq_true hn.1]
      refine ⟨0, a ++ [⟨a[q].f0⟩], ?_, ⟨by simp; omega, h.lb, h.lc, h.ld, h.sa.put hy, h.sb, h.sc, h.sd⟩⟩
      simp only [Int.toNat_natCast, List.getElem?_eq_getElem hq, get_optS, put0 a[q].f0 true false a b c d (by omega) hy, get_leaf]; rfl
  · simp only [get_br, has_no hn]
    exact ⟨5, a, rfl, h⟩

theorem say0 (v : List S0) (hv : v.length ≤ 2100) (a b c d : List S2) (k : Nat) (hk : k ≤ 80) (h : Inv a b c d k) : g14_0 ⟨0, v, true, false, a, b, c, d⟩ = some ⟨0, c ++ [⟨v⟩], d⟩ ∧ Inv a b (c ++ [⟨v⟩]) d (k + 1) := by
  have hc := h.lc; have hd := h.ld
  refine ⟨?_, ⟨h.la, h.lb, by simp; omega, by omega, h.sa, h.sb, h.sc.put hv, h.sd⟩⟩
  show (Tr.opt (g32_2 ⟨v, true, false, a, b, c, d⟩) _).get? = _
  rw [put2 v true false a b c d (by omega) hv]; rfl

theorem hea0 (a b c d : List S2) (k : Nat) (hk : k ≤ 80) (h : Inv a b c d k) : (c = [] ∧ g15_0 ⟨0, true, false, a, b, c, d⟩ = some ⟨[], false, true, false, a, b, c, d⟩) ∨ ∃ y R, c = y :: R ∧ g15_0 ⟨0, true, false, a, b, c, d⟩ = some ⟨y.f0, true, true, false, a, b, R, d⟩ ∧ Inv a b R d k := by
  have hc := h.lc; have hd := h.ld
  have e1 : g15_0 ⟨0, true, false, a, b, c, d⟩ = (Tr.opt (g33_2 ⟨0, true, false, a, b, c, d⟩) fun z => .leaf (⟨z.b0, z.b1, z.b2, z.b3, z.b4, z.b5, z.b6, z.b7⟩ : Y15_0)).get? := rfl
  rw [e1, take2 0 true false a b c d (by omega)]
  cases hW : c with
  | nil => exact .inl ⟨rfl, rfl⟩
  | cons y R =>
    have hs := h.sc
    rw [hW] at hs
    have hl : R.length + 1 ≤ k := by have := h.lc; rw [hW] at this; simpa using this
    exact .inr ⟨y, R, rfl, rfl, ⟨h.la, h.lb, by omega, by omega, h.sa, h.sb, fun z hz => hs z (List.mem_cons_of_mem _ hz), h.sd⟩⟩


theorem apart0 (x0 : List S1) (j : Nat) (h1 : j < x0.length) (h2 : j < 80) (hp : IntKind.i64.wrap (remI (IntKind.u64.wrap x0[j].f1) 2) = 0) (q : Bool) (a b c d : List S2) (h : Inv a b c d j) :
    ∃ a' b' c' d', (gR3_0 ⟨x0, q, (j : Int), true, false, a, b, c, d, c, d⟩).get? = some (.inl ⟨x0, q, ((j + 1 : Nat) : Int), true, false, a', b', c', d', c', d'⟩) ∧ Inv a' b' c' d' (j + 1) := by
  have hw : IntKind.i64.wrap ((j : Int) + 1) = ((j + 1 : Nat) : Int) := by rw [w64 (by omega)]; omega
  have hm : (decide (0 ≤ (mnI (x0[j].f3.length : Int) 100)) && decide ((mnI (x0[j].f3.length : Int) 100) ≤ (x0[j].f3.length : Int))) = true := by
    have : 0 ≤ (mnI (x0[j].f3.length : Int) 100) ∧ (mnI (x0[j].f3.length : Int) 100) ≤ (x0[j].f3.length : Int) := by
      unfold mnI; split <;> omega
    simp [this.1, this.2]
  have hl : (List.take (Int.toNat (mnI (x0[j].f3.length : Int) 100)) x0[j].f3).length ≤ 2100 := by
    have : (mnI (x0[j].f3.length : Int) 100) ≤ 100 := by unfold mnI; split <;> omega
    simp only [List.length_take]; omega
  have hWl : c.length ≤ 200 := by have := h.lc; omega
  obtain ⟨v1, v2, v3, v4, s1, s2, s3, s4⟩ := views a b c d j (by omega) h
  unfold gR3_0
  simp only [get_br, get_opt, decide_eq_true (show (j : Int) < (x0.length : Int) by omega), decide_eq_true (show (j : Int) < 80 by omega), decide_eq_true (show (0 : Int) ≤ (j : Int) by omega), cond_true, Int.toNat_natCast, List.getElem?_eq_getElem h1, Option.bind_some, hm, hw, hp, show ((0 : Int) == 0) = true from rfl, show ((1 : Int) == 0) = false from rfl, show ((1 : Int) == 1) = true from rfl, cond_false, v1, v2, v3, v4, gr2 c hWl]
  generalize List.take (Int.toNat (mnI (x0[j].f3.length : Int) 100)) x0[j].f3 = v at hl
  generalize x0[j] = y
  cases k2 : (y.f0 == 2) with
  | true =>
    obtain ⟨e, a', e1, hi⟩ := dat0 v hl a b c d j h
    have hi := hi.up
    obtain ⟨w1, w2, w3, w4, t1, t2, t3, t4⟩ := views a' b c d (j + 1) (by omega) hi
    simp only [e1, Option.bind_some, cond_true, cond_false, w1, w2, w3, w4, t1, t2, t3, t4, s1, s2, s3, s4, Bool.not_true, Bool.not_false, get_leaf]
    exact ⟨a', b, c, d, rfl, hi⟩
  | false =>
  simp only [cond_false]
  cases k3 : (y.f0 == 3) with
  | true =>
    obtain ⟨e, a', e1, hi⟩ := dat0 v hl a b c d j h
    have hi := hi.up
    obtain ⟨w1, w2, w3, w4, t1, t2, t3, t4⟩ := views a' b c d (j + 1) (by omega) hi
    simp only [e1, Option.bind_some, cond_true, cond_false, w1, w2, w3, w4, t1, t2, t3, t4, s1, s2, s3, s4, Bool.not_true, Bool.not_false, get_leaf]
    exact ⟨a', b, c, d, rfl, hi⟩
  | false =>
  simp only [cond_false]
  cases k4 : (y.f0 == 4) with
  | true =>
    obtain ⟨z, ok, a', e1, hi⟩ := tak0 y.f2 a b c d j h
    have hi := hi.up
    obtain ⟨w1, w2, w3, w4, t1, t2, t3, t4⟩ := views a' b c d (j + 1) (by omega) hi
    simp only [e1, Option.bind_some, cond_true, cond_false, w1, w2, w3, w4, t1, t2, t3, t4, s1, s2, s3, s4, Bool.not_true, Bool.not_false, get_leaf]
    exact ⟨a', b, c, d, rfl, hi⟩
  | false =>
  simp only [cond_false]
  cases k5 : (y.f0 == 5) with
  | true =>
    obtain ⟨e, a', e1, hi⟩ := twi0 y.f2 a b c d j h
    have hi := hi.up
    obtain ⟨w1, w2, w3, w4, t1, t2, t3, t4⟩ := views a' b c d (j + 1) (by omega) hi
    simp only [e1, Option.bind_some, cond_true, cond_false, w1, w2, w3, w4, t1, t2, t3, t4, s1, s2, s3, s4, Bool.not_true, Bool.not_false, get_leaf]
    exact ⟨a', b, c, d, rfl, hi⟩
  | false =>
  simp only [cond_false]
  cases k6 : (y.f0 == 6) with
  | true =>
    obtain ⟨e1, hi⟩ := say0 v hl a b c d j (by omega) h
    obtain ⟨w1, w2, w3, w4, t1, t2, t3, t4⟩ := views a b (c ++ [⟨v⟩]) d (j + 1) (by omega) hi
    have hb : (Nat.ble (0 + v.length) 140737488355328 && Nat.ble ((0 + v.length) * 1) 140737488355328) = true := by
      simp only [Bool.and_eq_true, Nat.ble_eq]; omega
    refine ⟨a, b, c ++ [⟨v⟩], d, ?_, hi⟩
    cases v with
    | nil =>
      simp only [e1, Option.bind_some, bne_self_eq_false, List.isEmpty_nil, cond_true, cond_false, w1, w2, w3, w4, t1, t2, t3, t4, s1, s2, s3, s4, Bool.not_true, Bool.not_false, get_leaf]
    | cons v0 vs =>
      simp only [e1, Option.bind_some, bne_self_eq_false, List.isEmpty_cons, hb, cond_true, cond_false, w1, w2, w3, w4, t1, t2, t3, t4, s1, s2, s3, s4, Bool.not_true, Bool.not_false, get_leaf]
  | false =>
  simp only [cond_false]
  cases k7 : (y.f0 == 7) with
  | true =>
    rcases hea0 a b c d j (by omega) h with ⟨rfl, e1⟩ | ⟨z, R, rfl, e1, hi⟩
    · refine ⟨a, b, [], d, ?_, h.up⟩
      simp only [e1, Option.bind_some]
      simp [v1, v2, v3, v4, s1, s2, s3, s4, get_leaf]
    · obtain ⟨w1, w2, w3, w4, t1, t2, t3, t4⟩ := views a b R d j (by omega) hi
      refine ⟨a, b, R, d, ?_, hi.up⟩
      simp only [e1, Option.bind_some]
      have hz : decide (((z :: R).length : Int) > 0) = true := by simp
      have hd1 : (decide ((1 : Int) ≤ (R.length : Int) + 1) && Nat.blt 0 (R.length + 1)) = true := by
        have : Nat.blt 0 (R.length + 1) = true := rfl
        rw [this, decide_eq_true (show (1 : Int) ≤ (R.length : Int) + 1 by omega)]; rfl
      rw [hz]
      simp [ba_rfl, w1, w2, w3, w4, t1, t2, t3, t4, s1, s2, s3, s4, get_leaf]
      rw [hd1]; rfl
  | false =>
    simp only [cond_false, Option.bind_some, cond_true, v1, v2, v3, v4, s1, s2, s3, s4, Bool.not_true, Bool.not_false, get_leaf]
    exact ⟨a, b, c, d, rfl, h.up⟩


theorem dat1 (v : List S0) (hv : v.length ≤ 2100) (a b c d : List S2) (k : Nat) (h : Inv a b c d k) : ∃ e b', g11_1 ⟨1, v, true, false, a, b, c, d⟩ = some ⟨e, a, b'⟩ ∧ Inv a b' c d k := by
  by_cases h1 : v.length > 2048
  · refine ⟨2, b, ?_, h⟩
    unfold g11_1 g11_1T
    simp only [get_br, decide_eq_true (show (v.length : Int) > 2048 by omega)]; rfl
  · by_cases h2 : b.length ≥ 32
    · refine ⟨3, b, ?_, h⟩
      unfold g11_1 g11_1T
      simp only [get_br, decide_eq_false (show ¬ (v.length : Int) > 2048 by omega), decide_eq_true (show (b.length : Int) ≥ 32 by omega)]; rfl
    · refine ⟨0, b ++ [⟨v⟩], ?_, ⟨h.la, by simp; omega, h.lc, h.ld, h.sa, h.sb.put hv, h.sc, h.sd⟩⟩
      unfold g11_1 g11_1T
      simp only [get_br, decide_eq_false (show ¬ (v.length : Int) > 2048 by omega), decide_eq_false (show ¬ (b.length : Int) ≥ 32 by omega), put1 v true false a b c d (by omega) hv, get_optS]; rfl

theorem tak1 (n : Int) (a b c d : List S2) (k : Nat) (h : Inv a b c d k) : ∃ y ok b', g12_0 ⟨1, n, true, false, a, b, c, d⟩ = some ⟨y, ok, true, false, a, b', c, d⟩ ∧ Inv a b' c d k := by
  have ha := h.la; have hb := h.lb
  have e1 : g12_0 ⟨1, n, true, false, a, b, c, d⟩ = (Tr.opt (g33_1 ⟨n, true, false, a, b, c, d⟩) fun z => .leaf (⟨z.b0, z.b1, z.b2, z.b3, z.b4, z.b5, z.b6, z.b7⟩ : Y12_0)).get? := rfl
  rw [e1, take1 n true false a b c d (by omega)]
  cases hr : tk b n with
  | none => exact ⟨[], false, b, rfl, h⟩
  | some r =>
    obtain ⟨h1, h2, _⟩ := tk_len hr
    exact ⟨r.1, true, r.2, rfl, ⟨h.la, by omega, h.lc, h.ld, h.sa, (h2 h.sb).2, h.sc, h.sd⟩⟩

theorem twi1 (n : Int) (a b c d : List S2) (k : Nat) (h : Inv a b c d k) : ∃ e b', g13_0 ⟨1, n, true, false, a, b, c, d⟩ = some ⟨e, a, b'⟩ ∧ Inv a b' c d k := by
  have ha := h.la; have hb := h.lb
  have e1 : g13_0 ⟨1, n, true, false, a, b, c, d⟩ = (Tr.br (!(bif (decide (n ≥ 0)) then (decide (n < (b.length : Int))) else false)) (.leaf (⟨5, a, b⟩ : Y13_0)) (.br (decide ((b.length : Int) ≥ 32)) (.leaf ⟨3, a, b⟩) (.br (decide (0 ≤ n)) (.opt (b[Int.toNat n]?) fun y => .opt (g32_1 ⟨y.f0, true, false, a, b, c, d⟩) fun z => .leaf ⟨0, a, z.b0⟩) .fail))).get? := rfl
  rw [e1]
  by_cases hn : 0 ≤ n ∧ n < (b.length : Int)
  · obtain ⟨q, rfl⟩ : ∃ q : Nat, n = q := ⟨n.toNat, by omega⟩
    have hq : q < b.length := by omega
    have hy := h.sb _ (List.getElem_mem hq)
    simp only [get_br, has_yes hn]
    by_cases h32 : b.length ≥ 32
    · rw [decide_eq_true (show (b.length : Int) ≥ 32 by omega)]
      exact ⟨3, b, rfl, h⟩
    · rw [decide_eq_false (show ¬ (b.length : Int) ≥ 32 by omega), decide_eq_true hn.1]
      refine ⟨0, b ++ [⟨b[q].f0⟩], ?_, ⟨h.la, by simp; omega, h.lc, h.ld, h.sa, h.sb.put hy, h.sc, h.sd⟩⟩
      simp only [Int.toNat_natCast, List.getElem?_eq_getElem hq, get_optS, put1 b[q].f0 true false a b c d (by omega) hy, get_leaf]; rfl
  · simp only [get_br, has_no hn]
    exact ⟨5, b, rfl, h⟩

theorem say1 (v : List S0) (hv : v.length ≤ 2100) (a b c d : List S2) (k : Nat) (hk : k ≤ 80) (h : Inv a b c d k) : g14_0 ⟨1, v, true, false, a, b, c, d⟩ = some ⟨0, c, d ++ [⟨v⟩]⟩ ∧ Inv a b c (d ++ [⟨v⟩]) (k + 1) := by
  have hc := h.lc; have hd := h.ld
  refine ⟨?_, ⟨h.la, h.lb, by omega, by simp; omega, h.sa, h.sb, h.sc, h.sd.put hv⟩⟩
  show (Tr.opt (g32_3 ⟨v, true, false, a, b, c, d⟩) _).get? = _
  rw [put3 v true false a b c d (by omega) hv]; rfl

theorem hea1 (a b c d : List S2) (k : Nat) (hk : k ≤ 80) (h : Inv a b c d k) : (d = [] ∧ g15_0 ⟨1, true, false, a, b, c, d⟩ = some ⟨[], false, true, false, a, b, c, d⟩) ∨ ∃ y R, d = y :: R ∧ g15_0 ⟨1, true, false, a, b, c, d⟩ = some ⟨y.f0, true, true, false, a, b, c, R⟩ ∧ Inv a b c R k := by
  have hc := h.lc; have hd := h.ld
  have e1 : g15_0 ⟨1, true, false, a, b, c, d⟩ = (Tr.opt (g33_3 ⟨0, true, false, a, b, c, d⟩) fun z => .leaf (⟨z.b0, z.b1, z.b2, z.b3, z.b4, z.b5, z.b6, z.b7⟩ : Y15_0)).get? := rfl
  rw [e1, take3 0 true false a b c d (by omega)]
  cases hW : d with
  | nil => exact .inl ⟨rfl, rfl⟩
  | cons y R =>
    have hs := h.sd
    rw [hW] at hs
    have hl : R.length + 1 ≤ k := by have := h.ld; rw [hW] at this; simpa using this
    exact .inr ⟨y, R, rfl, rfl, ⟨h.la, h.lb, by omega, by omega, h.sa, h.sb, h.sc, fun z hz => hs z (List.mem_cons_of_mem _ hz)⟩⟩


theorem apart1 (x0 : List S1) (j : Nat) (h1 : j < x0.length) (h2 : j < 80) (hp : IntKind.i64.wrap (remI (IntKind.u64.wrap x0[j].f1) 2) = 1) (q : Bool) (a b c d : List S2) (h : Inv a b c d j) :
    ∃ a' b' c' d', (gR3_0 ⟨x0, q, (j : Int), true, false, a, b, c, d, c, d⟩).get? = some (.inl ⟨x0, q, ((j + 1 : Nat) : Int), true, false, a', b', c', d', c', d'⟩) ∧ Inv a' b' c' d' (j + 1) := by
  have hw : IntKind.i64.wrap ((j : Int) + 1) = ((j + 1 : Nat) : Int) := by rw [w64 (by omega)]; omega
  have hm : (decide (0 ≤ (mnI (x0[j].f3.length : Int) 100)) && decide ((mnI (x0[j].f3.length : Int) 100) ≤ (x0[j].f3.length : Int))) = true := by
    have : 0 ≤ (mnI (x0[j].f3.length : Int) 100) ∧ (mnI (x0[j].f3.length : Int) 100) ≤ (x0[j].f3.length : Int) := by
      unfold mnI; split <;> omega
    simp [this.1, this.2]
  have hl : (List.take (Int.toNat (mnI (x0[j].f3.length : Int) 100)) x0[j].f3).length ≤ 2100 := by
    have : (mnI (x0[j].f3.length : Int) 100) ≤ 100 := by unfold mnI; split <;> omega
    simp only [List.length_take]; omega
  have hWl : d.length ≤ 200 := by have := h.ld; omega
  obtain ⟨v1, v2, v3, v4, s1, s2, s3, s4⟩ := views a b c d j (by omega) h
  unfold gR3_0
  simp only [get_br, get_opt, decide_eq_true (show (j : Int) < (x0.length : Int) by omega), decide_eq_true (show (j : Int) < 80 by omega), decide_eq_true (show (0 : Int) ≤ (j : Int) by omega), cond_true, Int.toNat_natCast, List.getElem?_eq_getElem h1, Option.bind_some, hm, hw, hp, show ((0 : Int) == 0) = true from rfl, show ((1 : Int) == 0) = false from rfl, show ((1 : Int) == 1) = true from rfl, cond_false, v1, v2, v3, v4, gr2 d hWl]
  generalize List.take (Int.toNat (mnI (x0[j].f3.length : Int) 100)) x0[j].f3 = v at hl
  generalize x0[j] = y
  cases k2 : (y.f0 == 2) with
  | true =>
    obtain ⟨e, b', e1, hi⟩ := dat1 v hl a b c d j h
    have hi := hi.up
    obtain ⟨w1, w2, w3, w4, t1, t2, t3, t4⟩ := views a b' c d (j + 1) (by omega) hi
    simp only [e1, Option.bind_some, cond_true, cond_false, w1, w2, w3, w4, t1, t2, t3, t4, s1, s2, s3, s4, Bool.not_true, Bool.not_false, get_leaf]
    exact ⟨a, b', c, d, rfl, hi⟩
  | false =>
  simp only [cond_false]
  cases k3 : (y.f0 == 3) with
  | true =>
    obtain ⟨e, b', e1, hi⟩ := dat1 v hl a b c d j h
    have hi := hi.up
    obtain ⟨w1, w2, w3, w4, t1, t2, t3, t4⟩ := views a b' c d (j + 1) (by omega) hi
    simp only [e1, Option.bind_some, cond_true, cond_false, w1, w2, w3, w4, t1, t2, t3, t4, s1, s2, s3, s4, Bool.not_true, Bool.not_false, get_leaf]
    exact ⟨a, b', c, d, rfl, hi⟩
  | false =>
  simp only [cond_false]
  cases k4 : (y.f0 == 4) with
  | true =>
    obtain ⟨z, ok, b', e1, hi⟩ := tak1 y.f2 a b c d j h
    have hi := hi.up
    obtain ⟨w1, w2, w3, w4, t1, t2, t3, t4⟩ := views a b' c d (j + 1) (by omega) hi
    simp only [e1, Option.bind_some, cond_true, cond_false, w1, w2, w3, w4, t1, t2, t3, t4, s1, s2, s3, s4, Bool.not_true, Bool.not_false, get_leaf]
    exact ⟨a, b', c, d, rfl, hi⟩
  | false =>
  simp only [cond_false]
  cases k5 : (y.f0 == 5) with
  | true =>
    obtain ⟨e, b', e1, hi⟩ := twi1 y.f2 a b c d j h
    have hi := hi.up
    obtain ⟨w1, w2, w3, w4, t1, t2, t3, t4⟩ := views a b' c d (j + 1) (by omega) hi
    simp only [e1, Option.bind_some, cond_true, cond_false, w1, w2, w3, w4, t1, t2, t3, t4, s1, s2, s3, s4, Bool.not_true, Bool.not_false, get_leaf]
    exact ⟨a, b', c, d, rfl, hi⟩
  | false =>
  simp only [cond_false]
  cases k6 : (y.f0 == 6) with
  | true =>
    obtain ⟨e1, hi⟩ := say1 v hl a b c d j (by omega) h
    obtain ⟨w1, w2, w3, w4, t1, t2, t3, t4⟩ := views a b c (d ++ [⟨v⟩]) (j + 1) (by omega) hi
    have hb : (Nat.ble (0 + v.length) 140737488355328 && Nat.ble ((0 + v.length) * 1) 140737488355328) = true := by
      simp only [Bool.and_eq_true, Nat.ble_eq]; omega
    refine ⟨a, b, c, d ++ [⟨v⟩], ?_, hi⟩
    cases v with
    | nil =>
      simp only [e1, Option.bind_some, bne_self_eq_false, List.isEmpty_nil, cond_true, cond_false, w1, w2, w3, w4, t1, t2, t3, t4, s1, s2, s3, s4, Bool.not_true, Bool.not_false, get_leaf]
    | cons v0 vs =>
      simp only [e1, Option.bind_some, bne_self_eq_false, List.isEmpty_cons, hb, cond_true, cond_false, w1, w2, w3, w4, t1, t2, t3, t4, s1, s2, s3, s4, Bool.not_true, Bool.not_false, get_leaf]
  | false =>
  simp only [cond_false]
  cases k7 : (y.f0 == 7) with
  | true =>
    rcases hea1 a b c d j (by omega) h with ⟨rfl, e1⟩ | ⟨z, R, rfl, e1, hi⟩
    · refine ⟨a, b, c, [], ?_, h.up⟩
      simp only [e1, Option.bind_some]
      simp [v1, v2, v3, v4, s1, s2, s3, s4, get_leaf]
    · obtain ⟨w1, w2, w3, w4, t1, t2, t3, t4⟩ := views a b c R j (by omega) hi
      refine ⟨a, b, c, R, ?_, hi.up⟩
      simp only [e1, Option.bind_some]
      have hz : decide (((z :: R).length : Int) > 0) = true := by simp
      have hd1 : (decide ((1 : Int) ≤ (R.length : Int) + 1) && Nat.blt 0 (R.length + 1)) = true := by
        have : Nat.blt 0 (R.length + 1) = true := rfl
        rw [this, decide_eq_true (show (1 : Int) ≤ (R.length : Int) + 1 by omega)]; rfl
      rw [hz]
      simp [ba_rfl, w1, w2, w3, w4, t1, t2, t3, t4, s1, s2, s3, s4, get_leaf]
      rw [hd1]; rfl
  | false =>
    simp only [cond_false, Option.bind_some, cond_true, v1, v2, v3, v4, s1, s2, s3, s4, Bool.not_true, Bool.not_false, get_leaf]
    exact ⟨a, b, c, d, rfl, h.up⟩


theorem apart (x0 : List S1) : g3 x0 = some true := by
  have key : ∃ w, iter2 gR3_0 1000000 ⟨x0, false, 0, true, false, [], [], [], [], [], []⟩ = some (.inl w) ∧ True := by
    refine iter2_inv (R := gR3_0) (fun j v => j ≤ 80 ∧ ∃ q a b c d, v = ⟨x0, q, (j : Int), true, false, a, b, c, d, c, d⟩ ∧ Inv a b c d j) (fun _ => True) 80 (fun j v h => h.1) ?_ 1000000 0 _ ⟨by omega, false, [], [], [], [], rfl, ⟨by simp, by simp, by simp, by simp, fun y hy => by simp at hy, fun y hy => by simp at hy, fun y hy => by simp at hy, fun y hy => by simp at hy⟩⟩ (by omega)
    rintro j v ⟨hj, q, a, b, c, d, rfl, hi⟩
    by_cases hc : j < x0.length ∧ j < 80
    · have : ∃ a' b' c' d', (gR3_0 ⟨x0, q, (j : Int), true, false, a, b, c, d, c, d⟩).get? = some (.inl ⟨x0, q, ((j + 1 : Nat) : Int), true, false, a', b', c', d', c', d'⟩) ∧ Inv a' b' c' d' (j + 1) := by
        rcases par x0[j].f1 with hp | hp
        · exact apart0 x0 j hc.1 hc.2 hp q a b c d hi
        · exact apart1 x0 j hc.1 hc.2 hp q a b c d hi
      obtain ⟨a', b', c', d', e1, e2⟩ := this
      exact .inl ⟨_, e1, by omega, q, a', b', c', d', rfl, e2⟩
    · refine .inr ⟨⟨x0, q, (j : Int), true, false, a, b, c, d, c, d⟩, ?_, trivial⟩
      unfold gR3_0
      have hcond : (bif (decide ((j : Int) < (x0.length : Int))) then (decide ((j : Int) < 80)) else false) = false := by
        by_cases h1 : (j : Int) < (x0.length : Int)
        · rw [decide_eq_true h1, decide_eq_false (show ¬ (j : Int) < 80 by omega)]; rfl
        · rw [decide_eq_false h1]; rfl
      simp only [get_br, hcond, cond_false, get_leaf]
  obtain ⟨w, hw, _⟩ := key
  unfold g3 g3T
  simp only [get_opt, get_br, awake, Option.bind_some, Bool.not_true, cond_false]
  rw [hw]
  rfl

end Ab25
