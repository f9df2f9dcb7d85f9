/- Seat 31: the plain laws: a meter is the document's. -/
import Derived.Test.YtcdimepfojdjdaaAb31b
import Derived.Test.YtcdimepfojdjdaaAbArith
import Derived.Test.YtcdimepfojdjdaaAbList
set_option maxRecDepth 100000
set_option maxHeartbeats 1000000
set_option linter.unusedVariables false
set_option linter.unusedSimpArgs false
namespace Ab31
open Go Ab

theorem w64 {n : Int} (h : -9223372036854775808 ≤ n ∧ n ≤ 9223372036854775807) : IntKind.i64.wrap n = n := by
  rw [wr_i64]; split <;> omega

structure Cf (m : S3) : Prop where
  made : m.f9 = true
  c0 : 0 ≤ m.f0 ∧ m.f0 ≤ 1073741824
  c1 : 0 ≤ m.f1 ∧ m.f1 ≤ 1073741824
  c2 : 0 ≤ m.f2 ∧ m.f2 ≤ 1073741824
  c3 : 0 ≤ m.f3 ∧ m.f3 ≤ 1073741824
  g : 0 ≤ m.f6 ∧ m.f6 ≤ m.f1
  e : 0 ≤ m.f7 ∧ m.f7 ≤ m.f3
  t : 0 ≤ m.f8 ∧ m.f8 ≤ 1099511627776

def toR (m : S3) : S8 := ⟨m.f0, m.f1, m.f2, m.f3, m.f4, m.f5, m.f6, m.f7, m.f8⟩

def cm (r d : Int) : Int := if 0 < r ∧ 8589934592 / r < d then 8589934592 else r * d

theorem cm_rg {r d : Int} (hr : 0 ≤ r ∧ r ≤ 1073741824) (hd : 0 ≤ d ∧ d ≤ 1099511627776) : 0 ≤ cm r d ∧ cm r d ≤ 8589934592 := by
  unfold cm
  split
  · omega
  · rename_i h
    refine ⟨Int.mul_nonneg hr.1 hd.1, ?_⟩
    rcases Int.lt_or_le 0 r with h0 | h0
    · have h1 : d ≤ 8589934592 / r := by omega
      have h2 : r * d ≤ r * (8589934592 / r) := Int.mul_le_mul_of_nonneg_left h1 hr.1
      have h3 := Int.mul_ediv_self_le (x := 8589934592) (k := r) (by omega)
      omega
    · have : r = 0 := by omega
      subst this; simp

theorem quo33 {r : Int} (hr : 0 < r) : quoI .i64 8589934592 r = 8589934592 / r := by
  unfold quoI
  rw [Int.tdiv_eq_ediv_of_nonneg (by omega)]
  have h1 : 0 ≤ 8589934592 / r := Int.ediv_nonneg (by omega) (by omega)
  have h2 : 8589934592 / r ≤ 8589934592 := Int.ediv_le_self _ (by omega)
  exact w64 (by omega)

theorem g23_eq {r d : Int} (hr : 0 ≤ r ∧ r ≤ 1073741824) (hd : 0 ≤ d ∧ d ≤ 1099511627776) : g23_0 ⟨r, ⟨d⟩⟩ = some ⟨cm r d⟩ := by
  have hc := cm_rg hr hd
  unfold g23_0 g23_0T
  simp only [get_br, get_leaf, get_fail]
  by_cases h0 : r > 0
  · have hne : (r == 0) = false := by simp; omega
    rw [quo33 h0]
    by_cases h1 : d > 8589934592 / r
    · have : cm r d = 8589934592 := by unfold cm; rw [if_pos ⟨h0, h1⟩]
      simp [h0, h1, hne, this]
    · have h2 : cm r d = r * d := by unfold cm; rw [if_neg (fun h => h1 h.2)]
      simp [h0, h1, hne]
      rw [← h2]; exact w64 (by omega)
  · have h2 : cm r d = r * d := by unfold cm; rw [if_neg (fun h => h0 h.1)]
    simp [h0]
    rw [← h2]; exact w64 (by omega)

theorem g24_eq {r d : Int} (hr : 0 ≤ r ∧ r ≤ 1073741824) (hd : 0 ≤ d ∧ d ≤ 1099511627776) : g24 r d = some (cm r d) := by
  have hc := cm_rg hr hd
  unfold g24 g24T
  simp only [get_br, get_leaf, get_fail]
  by_cases h0 : r = 0
  · subst h0; simp [cm]
  · have h0' : r > 0 := by omega
    by_cases hd0 : d = 0
    · subst hd0
      have : ¬ 8589934592 / r < 0 := by have : 0 ≤ 8589934592 / r := Int.ediv_nonneg (by omega) (by omega); omega
      simp [cm, this]
    · rw [quo33 h0']
      have hr0 : (r == 0) = false := by simp [h0]
      have hdd : (d == 0) = false := by simp [hd0]
      by_cases h1 : d > 8589934592 / r
      · have : cm r d = 8589934592 := by unfold cm; rw [if_pos ⟨h0', h1⟩]
        simp only [hr0, hdd, cond_false, h1, decide_true, cond_true, this]
      · have h2 : cm r d = r * d := by unfold cm; rw [if_neg (fun h => h1 h.2)]
        have hw : IntKind.i64.wrap (r * d) = r * d := w64 (by rw [← h2]; omega)
        simp only [hr0, hdd, cond_false, h1, decide_false, hw, h2]

def fillP (m : S3) (t : Int) : S3 :=
  { m with f6 := mnI (m.f6 + cm m.f0 (t - m.f8)) m.f1, f7 := mnI (m.f7 + cm m.f2 (t - m.f8) + (bif m.f4 then m.f6 + cm m.f0 (t - m.f8) - mnI (m.f6 + cm m.f0 (t - m.f8)) m.f1 else 0)) m.f3, f8 := t }

section
variable {m : S3} {t : Int} (hm : Cf m) (ht : m.f8 ≤ t ∧ t ≤ 1099511627776)
include hm ht
theorem c_rg : 0 ≤ cm m.f0 (t - m.f8) ∧ cm m.f0 (t - m.f8) ≤ 8589934592 := cm_rg hm.c0 (by have := hm.t; omega)
theorem e_rg : 0 ≤ cm m.f2 (t - m.f8) ∧ cm m.f2 (t - m.f8) ≤ 8589934592 := cm_rg hm.c2 (by have := hm.t; omega)
theorem tm_rg : IntKind.i64.wrap (t - m.f8) = t - m.f8 := w64 (by have := hm.t; omega)
theorem fill_cf : Cf (fillP m t) := by
  have h1 := c_rg hm ht; have h2 := e_rg hm ht
  have := hm.c0; have := hm.c1; have := hm.c2; have := hm.c3; have := hm.g; have := hm.e; have := hm.t
  refine ⟨hm.made, hm.c0, hm.c1, hm.c2, hm.c3, ?_, ?_, ?_⟩
  · show 0 ≤ mnI _ _ ∧ mnI _ _ ≤ m.f1
    unfold mnI; split <;> omega
  · show 0 ≤ mnI _ _ ∧ mnI _ _ ≤ m.f3
    cases m.f4 <;> simp only [cond_true, cond_false] <;> unfold mnI <;> (repeat' split) <;> omega
  · show 0 ≤ t ∧ t ≤ _
    omega
theorem fill_wr : IntKind.i64.wrap (m.f6 + cm m.f0 (t - m.f8)) = m.f6 + cm m.f0 (t - m.f8) := w64 (by have := c_rg hm ht; have := hm.g; have := hm.c1; omega)
theorem fill_we : IntKind.i64.wrap (m.f7 + cm m.f2 (t - m.f8)) = m.f7 + cm m.f2 (t - m.f8) := w64 (by have := e_rg hm ht; have := hm.e; have := hm.c3; omega)
theorem mn_rg : 0 ≤ mnI (m.f6 + cm m.f0 (t - m.f8)) m.f1 ∧ mnI (m.f6 + cm m.f0 (t - m.f8)) m.f1 ≤ m.f6 + cm m.f0 (t - m.f8) := by
  have := c_rg hm ht; have := hm.g; have := hm.c1
  unfold mnI; split <;> omega
theorem g20_eq : g20_0 ⟨t, m⟩ = some ⟨fillP m t, m⟩ := by
  have h1 := c_rg hm ht; have h2 := e_rg hm ht; have h3 := mn_rg hm ht
  have := hm.c0; have := hm.c1; have := hm.c2; have := hm.c3; have := hm.g; have := hm.e; have := hm.t
  have hd : 0 ≤ t - m.f8 ∧ t - m.f8 ≤ 1099511627776 := by omega
  unfold g20_0 g20_0T
  simp only [tm_rg hm ht, g23_eq hm.c0 hd, g23_eq hm.c2 hd, get_br, get_optS, get_leaf, fill_wr hm ht, fill_we hm ht]
  unfold fillP
  cases h4 : m.f4
  · simp only [cond_false, Int.add_zero, fill_we hm ht]
    rw [← h4]
  · simp only [cond_true]
    rw [w64 (n := m.f6 + cm m.f0 (t - m.f8) - mnI (m.f6 + cm m.f0 (t - m.f8)) m.f1) (by omega), w64 (n := m.f7 + cm m.f2 (t - m.f8) + (m.f6 + cm m.f0 (t - m.f8) - mnI (m.f6 + cm m.f0 (t - m.f8)) m.f1)) (by omega), ← h4]
theorem g20_eq1 : g20_1 ⟨m, t⟩ = some ⟨fillP m t⟩ := by
  have h1 := c_rg hm ht; have h2 := e_rg hm ht; have h3 := mn_rg hm ht
  have := hm.c0; have := hm.c1; have := hm.c2; have := hm.c3; have := hm.g; have := hm.e; have := hm.t
  have hd : 0 ≤ t - m.f8 ∧ t - m.f8 ≤ 1099511627776 := by omega
  unfold g20_1 g20_1T
  simp only [tm_rg hm ht, g23_eq hm.c0 hd, g23_eq hm.c2 hd, get_br, get_optS, get_leaf, fill_wr hm ht, fill_we hm ht]
  unfold fillP
  cases h4 : m.f4
  · simp only [cond_false, Int.add_zero, fill_we hm ht]
  · simp only [cond_true]
    rw [w64 (n := m.f6 + cm m.f0 (t - m.f8) - mnI (m.f6 + cm m.f0 (t - m.f8)) m.f1) (by omega), w64 (n := m.f7 + cm m.f2 (t - m.f8) + (m.f6 + cm m.f0 (t - m.f8) - mnI (m.f6 + cm m.f0 (t - m.f8)) m.f1)) (by omega), ← h4]
theorem g22_eq : g22 (toR m) t = some (toR (fillP m t)) := by
  have h1 := c_rg hm ht; have h2 := e_rg hm ht; have h3 := mn_rg hm ht
  have := hm.c0; have := hm.c1; have := hm.c2; have := hm.c3; have := hm.g; have := hm.e; have := hm.t
  have hd : 0 ≤ t - m.f8 ∧ t - m.f8 ≤ 1099511627776 := by omega
  unfold g22 g22T
  simp only [toR, tm_rg hm ht, g24_eq hm.c0 hd, g24_eq hm.c2 hd, get_br, get_optS, get_leaf, fill_wr hm ht, fill_we hm ht]
  unfold fillP
  cases h4 : m.f4
  · simp only [cond_false, Int.add_zero, h4]
  · simp only [cond_true, h4]
    rw [w64 (n := m.f7 + cm m.f2 (t - m.f8) + (m.f6 + cm m.f0 (t - m.f8))) (by omega), w64 (n := m.f7 + cm m.f2 (t - m.f8) + (m.f6 + cm m.f0 (t - m.f8)) - mnI (m.f6 + cm m.f0 (t - m.f8)) m.f1) (by omega),
      show m.f7 + cm m.f2 (t - m.f8) + (m.f6 + cm m.f0 (t - m.f8)) - mnI (m.f6 + cm m.f0 (t - m.f8)) m.f1 = m.f7 + cm m.f2 (t - m.f8) + (m.f6 + cm m.f0 (t - m.f8) - mnI (m.f6 + cm m.f0 (t - m.f8)) m.f1) by omega]
end

def markP (m : S3) (t s c : Int) : S3 × Int × Int :=
  if ¬ (m.f8 ≤ t ∧ t ≤ 1099511627776) then (m, 0, 1)
  else if s < 1 ∨ s > 2048 ∨ c < 1 ∨ c > 3 then (m, 0, 310)
  else if (m.f5 = false ∨ c = 1) ∧ s ≤ (fillP m t).f6 then ({ fillP m t with f6 := (fillP m t).f6 - s }, 1, 0)
  else if (m.f5 = false ∨ c ≠ 3) ∧ s ≤ (fillP m t).f7 then ({ fillP m t with f7 := (fillP m t).f7 - s }, 2, 0)
  else (fillP m t, 3, 0)

theorem mark_cf {m : S3} (hm : Cf m) (t s c : Int) : Cf (markP m t s c).1 := by
  unfold markP
  split
  · exact hm
  · rename_i h; simp only [Classical.not_not] at h
    have hf := fill_cf hm h
    split
    · exact hm
    · rename_i h2
      split
      · rename_i h3
        exact ⟨hf.made, hf.c0, hf.c1, hf.c2, hf.c3, by have := hf.g; show 0 ≤ (fillP m t).f6 - s ∧ (fillP m t).f6 - s ≤ (fillP m t).f1; omega, hf.e, hf.t⟩
      · split
        · exact ⟨hf.made, hf.c0, hf.c1, hf.c2, hf.c3, hf.g, by have := hf.e; show 0 ≤ (fillP m t).f7 - s ∧ (fillP m t).f7 - s ≤ (fillP m t).f3; omega, hf.t⟩
        · exact hf

theorem g10_eq {m : S3} (hm : Cf m) (t s c : Int) : g10_1 ⟨t, s, c, m⟩ = some ⟨(markP m t s c).2.1, (markP m t s c).2.2, (markP m t s c).1⟩ := by
  unfold g10_1 g10_1T markP
  simp only [get_br, get_leaf, get_optS, hm.made, Bool.not_true, cond_false]
  by_cases h : m.f8 ≤ t ∧ t ≤ 1099511627776
  · have hc : (bif (decide (t ≥ m.f8)) then (decide (t ≤ 1099511627776)) else false) = true := by simp [h.1, h.2]
    rw [hc, if_neg (by simpa using h)]
    simp only [Bool.not_true, cond_false]
    by_cases h2 : s < 1 ∨ s > 2048 ∨ c < 1 ∨ c > 3
    · have : (bif (bif (bif (decide (s < 1)) then true else (decide (s > 2048))) then true else (decide (c < 1))) then true else (decide (c > 3))) = true := by
        rcases h2 with h2 | h2 | h2 | h2 <;> simp [h2]
      rw [this, if_pos h2]; rfl
    · have h2' : ¬ s < 1 ∧ ¬ s > 2048 ∧ ¬ c < 1 ∧ ¬ c > 3 := by omega
      have : (bif (bif (bif (decide (s < 1)) then true else (decide (s > 2048))) then true else (decide (c < 1))) then true else (decide (c > 3))) = false := by
        simp [h2'.1, h2'.2.1, h2'.2.2.1, h2'.2.2.2]
      rw [this, if_neg h2]
      have hf := fill_cf hm h
      have e5 : (fillP m t).f5 = m.f5 := rfl
      simp only [cond_false, g20_eq hm h, get_optS, get_br, get_leaf, e5]
      have hg := hf.g; have he := hf.e; have := hf.c1; have := hf.c3
      have w6 : s ≤ (fillP m t).f6 → IntKind.i64.wrap ((fillP m t).f6 - s) = (fillP m t).f6 - s := fun _ => w64 (by omega)
      have w7 : s ≤ (fillP m t).f7 → IntKind.i64.wrap ((fillP m t).f7 - s) = (fillP m t).f7 - s := fun _ => w64 (by omega)
      cases h5 : m.f5
      · by_cases a : s ≤ (fillP m t).f6
        · simp [a, w6 a]
        · by_cases b : s ≤ (fillP m t).f7
          · simp [a, b, w7 b]
          · simp [a, b]
      · by_cases c1 : c = 1
        · subst c1
          by_cases a : s ≤ (fillP m t).f6
          · simp [a, w6 a]
          · by_cases b : s ≤ (fillP m t).f7
            · simp [a, b, w7 b]
            · simp [a, b]
        · by_cases c2 : c = 2
          · subst c2
            by_cases b : s ≤ (fillP m t).f7
            · simp [b, w7 b]
            · simp [b]
          · have c3 : c = 3 := by omega
            subst c3
            simp
  · have hc : (bif (decide (t ≥ m.f8)) then (decide (t ≤ 1099511627776)) else false) = false := by
      by_cases h1 : t ≥ m.f8
      · have : ¬ t ≤ 1099511627776 := fun h2 => h ⟨h1, h2⟩
        simp [h1, this]
      · simp [h1]
    rw [hc, if_pos h]
    simp

theorem g15_eq {m : S3} (hm : Cf m) (t s c : Int) : g15 (toR m) t s c = some (toR (markP m t s c).1, (markP m t s c).2.1, (markP m t s c).2.2) := by
  unfold g15 g15T markP
  have t8 : (toR m).f8 = m.f8 := rfl
  simp only [get_br, get_leaf, get_optS, t8]
  by_cases h : m.f8 ≤ t ∧ t ≤ 1099511627776
  · have hc : (bif (decide (t < m.f8)) then true else (decide (t > 1099511627776))) = false := by
      have h1 : ¬ t < m.f8 := by omega
      have h2 : ¬ t > 1099511627776 := by omega
      simp [h1, h2]
    rw [hc, if_neg (by simpa using h)]
    simp only [cond_false]
    by_cases h2 : s < 1 ∨ s > 2048 ∨ c < 1 ∨ c > 3
    · have : (bif (bif (decide (s < 1)) then true else (decide (s > 2048))) then true else (bif (bif (c != 1) then (c != 2) else false) then (c != 3) else false)) = true := by
        rcases h2 with h2 | h2 | h2 | h2
        · simp [h2]
        · simp [h2]
        · have a1 : c ≠ 1 := by omega
          have a2 : c ≠ 2 := by omega
          have a3 : c ≠ 3 := by omega
          simp [a1, a2, a3]
        · have a1 : c ≠ 1 := by omega
          have a2 : c ≠ 2 := by omega
          have a3 : c ≠ 3 := by omega
          simp [a1, a2, a3]
      rw [this, if_pos h2]; rfl
    · have h2' : ¬ s < 1 ∧ ¬ s > 2048 := by omega
      have : (bif (bif (decide (s < 1)) then true else (decide (s > 2048))) then true else (bif (bif (c != 1) then (c != 2) else false) then (c != 3) else false)) = false := by
        have : c = 1 ∨ c = 2 ∨ c = 3 := by omega
        rcases this with rfl | rfl | rfl <;> simp [h2'.1, h2'.2]
      rw [this, if_neg h2]
      have hf := fill_cf hm h
      have e5 : (toR (fillP m t)).f5 = m.f5 := rfl
      have e5' : (fillP m t).f5 = m.f5 := rfl
      have e6 : (toR (fillP m t)).f6 = (fillP m t).f6 := rfl
      have e7 : (toR (fillP m t)).f7 = (fillP m t).f7 := rfl
      simp only [cond_false, g22_eq hm h, get_optS, get_br, get_leaf, e5, e6, e7]
      have hg := hf.g; have he := hf.e; have := hf.c1; have := hf.c3
      have w6 : s ≤ (fillP m t).f6 → IntKind.i64.wrap ((fillP m t).f6 - s) = (fillP m t).f6 - s := fun _ => w64 (by omega)
      have w7 : s ≤ (fillP m t).f7 → IntKind.i64.wrap ((fillP m t).f7 - s) = (fillP m t).f7 - s := fun _ => w64 (by omega)
      have : c = 1 ∨ c = 2 ∨ c = 3 := by omega
      cases h5 : m.f5
      · by_cases a : s ≤ (fillP m t).f6
        · simp [a, w6 a, toR, e5', h5]
        · by_cases b : s ≤ (fillP m t).f7
          · simp [a, b, w7 b, toR, e5', h5]
          · simp [a, b]
      · rcases this with rfl | rfl | rfl
        · by_cases a : s ≤ (fillP m t).f6
          · simp [a, w6 a, toR, e5', h5]
          · by_cases b : s ≤ (fillP m t).f7
            · simp [a, b, w7 b, toR, e5', h5]
            · simp [a, b]
        · by_cases b : s ≤ (fillP m t).f7
          · simp [b, w7 b, toR, e5', h5]
          · simp [b]
        · simp
  · have hc : (bif (decide (t < m.f8)) then true else (decide (t > 1099511627776))) = true := by
      by_cases h1 : t < m.f8
      · simp [h1]
      · have : t > 1099511627776 := by
          rcases Int.lt_or_le 1099511627776 t with h2 | h2
          · exact h2
          · exact absurd ⟨by omega, h2⟩ h
        simp [this]
    rw [hc, if_pos h]
    simp

def lev (m : S3) (t : Int) : Int × Int := if m.f8 ≤ t ∧ t ≤ 1099511627776 then ((fillP m t).f6, (fillP m t).f7) else (m.f6, m.f7)
theorem g11_eq {m : S3} (hm : Cf m) (t : Int) : g11_1 ⟨m, t⟩ = some ⟨(lev m t).1, (lev m t).2⟩ := by
  unfold g11_1 g11_1T lev
  simp only [get_br, get_leaf, hm.made, Bool.not_true, cond_false]
  by_cases h : m.f8 ≤ t ∧ t ≤ 1099511627776
  · rw [if_pos h, g20_eq1 hm h]
    simp [get_optS, get_leaf, h.1, h.2]
  · rw [if_neg h]
    have hc : (bif (decide (t ≥ m.f8)) then (decide (t ≤ 1099511627776)) else false) = false := by
      by_cases h1 : t ≥ m.f8
      · have : ¬ t ≤ 1099511627776 := fun h2 => h ⟨h1, h2⟩
        simp [h1, this]
      · simp [h1]
    rw [hc]; rfl
theorem g16_eq {m : S3} (hm : Cf m) (t : Int) : g16 (toR m) t = some (lev m t) := by
  unfold g16 g16T lev
  have t8 : (toR m).f8 = m.f8 := rfl
  simp only [get_br, get_leaf, t8]
  by_cases h : m.f8 ≤ t ∧ t ≤ 1099511627776
  · rw [if_pos h, g22_eq hm h]
    simp [get_optS, get_leaf, h.1, h.2, toR]
  · rw [if_neg h]
    have hc : (bif (decide (t ≥ m.f8)) then (decide (t ≤ 1099511627776)) else false) = false := by
      by_cases h1 : t ≥ m.f8
      · have : ¬ t ≤ 1099511627776 := fun h2 => h ⟨h1, h2⟩
        simp [h1, this]
      · simp [h1]
    rw [hc]; rfl
theorem g17_eq {m : S3} (hm : Cf m) : g17_1 ⟨m⟩ = ⟨m.f8⟩ := by
  unfold g17_1 g17_1T
  simp only [hm.made, Tr.get, Bool.not_true, cond_false]

theorem awake : g9 = some true := by kernel_rfl

def okC (x : S7) : Prop := (0 ≤ x.f0 ∧ x.f0 ≤ 1073741824) ∧ (0 ≤ x.f1 ∧ x.f1 ≤ 1073741824) ∧ (0 ≤ x.f2 ∧ x.f2 ≤ 1073741824) ∧ (0 ≤ x.f3 ∧ x.f3 ≤ 1073741824)
instance (x : S7) : Decidable (okC x) := by unfold okC; infer_instance

theorem bnd {a : Int} : (bif (decide (a < 0)) then true else (decide (a > 1073741824))) = !decide (0 ≤ a ∧ a ≤ 1073741824) := by
  by_cases h : a < 0
  · have : ¬ 0 ≤ a := by omega
    simp [h, this]
  · have h1 : 0 ≤ a := by omega
    by_cases h2 : a > 1073741824
    · have : ¬ a ≤ 1073741824 := by omega
      simp [h, h2, this]
    · have : a ≤ 1073741824 := by omega
      simp [h, h1, h2, this]

theorem g13_eq (x : S7) : g13 x = if okC x then 0 else 310 := by
  unfold g13 g13T okC
  simp only [Tr.get, bnd]
  by_cases h0 : 0 ≤ x.f0 ∧ x.f0 ≤ 1073741824 <;> by_cases h1 : 0 ≤ x.f1 ∧ x.f1 ≤ 1073741824 <;> by_cases h2 : 0 ≤ x.f2 ∧ x.f2 ≤ 1073741824 <;> by_cases h3 : 0 ≤ x.f3 ∧ x.f3 ≤ 1073741824 <;> simp only [h0, h1, h2, h3, decide_true, decide_false, Bool.not_true, Bool.not_false, cond_true, cond_false, true_and, and_true, and_self, and_false, false_and, if_true, if_false]

theorem g12_eq (x : S7) : g12 x = if okC x then (⟨x.f0, x.f1, x.f2, x.f3, x.f4, x.f5, x.f1, x.f3, 0⟩, 0) else (⟨0, 0, 0, 0, false, false, 0, 0, 0⟩, 310) := by
  have h21 : g21 x = decide (okC x) := by
    unfold g21 g21T okC
    simp only [Tr.get]
    by_cases a : 0 ≤ x.f0 <;> by_cases b : x.f0 ≤ 1073741824 <;> by_cases c : 0 ≤ x.f1 <;> by_cases d : x.f1 ≤ 1073741824 <;> by_cases e : 0 ≤ x.f2 <;> by_cases f : x.f2 ≤ 1073741824 <;> simp [a, b, c, d, e, f]
  unfold g12 g12T
  simp only [Tr.get, h21]
  by_cases h : okC x <;> simp [h]

end Ab31
