/- Seat 13: the plain laws, last part. -/
import Derived.Test.YtinfcoabfdegcaaAb13e
set_option maxRecDepth 100000
set_option maxHeartbeats 1000000
set_option linter.unusedVariables false
set_option linter.unusedSimpArgs false
namespace Ab13
open Go Ab

theorem step_out {x : S6} {n : Int} (h : ¬ In x n) : g9 x n = some (x, false) := by
  have c0 : (bif decide (n < 0) then true else decide (n ≥ (x.f16.length : Int))) = true := by
    unfold In at h
    by_cases a : n < 0
    · rw [decide_eq_true a]; rfl
    · rw [decide_eq_false a, decide_eq_true (show n ≥ (x.f16.length : Int) by omega)]; rfl
  simp only [g9, g9T, get_br, c0, cond_true, get_leaf]

theorem step_any {x : S6} (n : Int) (hl : x.f16.length ≤ 1000) : ∃ r, g9 x n = some r ∧ r.1.f16.length = x.f16.length := by
  by_cases h : In x n
  · obtain ⟨p, hp, _⟩ := h.at
    obtain ⟨r, hr, h1, _⟩ := step_good h hl hp
    exact ⟨r, hr, h1⟩
  · exact ⟨_, step_out h, rfl⟩

theorem law3 (x : S6) (n : Int) : g3 x n = some true := by
  obtain ⟨y, hy, hl⟩ := few_ok x
  obtain ⟨r, hr, hrl⟩ := step_any (x := y) n (by omega)
  have h2 : g10 y n = some r := by rw [← step_eq (by omega)]; exact hr
  simp only [g3, g3T, hy, get_optS, hr, h2, same_self r.1 (by omega), beq_self_eq_true, get_br, cond_true, awake_true, get_leaf]

theorem law6 (x : S6) (n : Int) : g6 x n = some true := by
  obtain ⟨y, hy, hl⟩ := few_ok x
  by_cases h : In y n
  · obtain ⟨p, hp, _⟩ := h.at
    obtain ⟨r, hr, hrl, q, hq, hQ⟩ := step_good h (show y.f16.length ≤ 1000 by omega) hp
    have hlen : (r.1.f16.length : Int) = y.f16.length := by rw [hrl]
    simp only [g6, g6T, hy, get_optS, hr, h.q, hlen, bne_self_eq_false, Bool.not_true, Bool.not_false, cond_false, get_br, decide_eq_true h.1, cond_true, hp, hq, awake_true, all_eq (x := y) (n := n) (show y.f16.length ≤ 1000 by omega), get_leaf]
    cases r.2
    · rfl
    · cases hf : q.f3
      · rfl
      · cases h3 : p.f3
        · cases hS : none_ (notSyn n) y.f16
          · rw [hQ h3 hS] at hf; cases hf
          · rfl
        · rfl
  · simp only [g6, g6T, hy, get_optS, step_out h, out_q h, Bool.not_false, cond_true, get_br, awake_true, get_leaf]

theorem law7 (x : S6) (n : Int) (b : Bool) : g7 x n b = some true := by
  obtain ⟨y, hy, hl⟩ := few_ok x
  simp only [g7, g7T, hy, get_optS, get_br]
  by_cases h : In y n
  · obtain ⟨p, hp, _⟩ := h.at
    obtain ⟨q, hq⟩ : ∃ q, q = ({ p with f22 := (bif p.f22 then b else false), f28 := b } : S0) := ⟨_, rfl⟩
    rw [h.q]
    simp only [Bool.not_true, cond_false, decide_eq_true h.1, cond_true, hp, get_optS, ← hq, with_eq h (show y.f16.length ≤ 1000 by omega)]
    have e73 : p.f73 = q.f73 := by rw [hq]
    have quiet : (bif (!q.f22) then true else q.f28) = true := by
      rw [hq]
      show (bif (!(bif p.f22 then b else false)) then true else b) = true
      cases p.f22 <;> cases b <;> rfl
    rw [e73]
    have hin := wth_in q h
    have hat := wth_at q h
    have hzl : (wth y n q).f16.length ≤ 1000 := by rw [wth_len]; omega
    generalize wth y n q = z at *
    have c0 : (bif decide (n < 0) then true else decide (n ≥ (z.f16.length : Int))) = false := by
      rw [decide_eq_false (show ¬ n < 0 by have := hin.1; omega), decide_eq_false (show ¬ n ≥ (z.f16.length : Int) by have := hin.2; omega)]; rfl
    have hcl := clone_small (c := 0) z.f16 (show 248 ≤ 1000000 by omega) hzl
    cases hc1 : (bif (decide (q.f73 < 1)) then true else (decide (q.f73 > 6)))
    · have hr : g9 z n = some (z, false) := by
        simp only [g9, g9T, get_br, c0, cond_false, decide_eq_true hin.1, cond_true, hat, get_optS, get_leaf, hc1, quiet]
      have hc2 : (bif (decide (q.f73 ≥ 1)) then (decide (q.f73 ≤ 6)) else false) = true := by
        by_cases b1 : q.f73 < 1
        · rw [decide_eq_true b1] at hc1; cases hc1
        · by_cases b2 : q.f73 > 6
          · rw [decide_eq_true b2, decide_eq_false b1] at hc1; cases hc1
          · rw [decide_eq_true (show q.f73 ≥ 1 by omega), decide_eq_true (show q.f73 ≤ 6 by omega)]; rfl
      simp only [hr, hc2, get_optS, cond_true, get_br, Bool.not_false, same_self z hzl, awake_true, get_leaf]
    · obtain ⟨q', hq'⟩ : ∃ q', q' = ({ q with f7 := false, f9 := false, f20 := true, f24 := true, f25 := false, f30 := 0, f65 := q.f41, f68 := 0, f70 := q.f43, f73 := 1 } : S0) := ⟨_, rfl⟩
      have hr : g9 z n = some (wth z n q', true) := by
        simp only [g9, g9T, get_br, c0, cond_false, decide_eq_true hin.1, decide_eq_true hin.2, Bool.and_self, Bool.or_true, hcl, cond_true, hat, get_optS, get_leaf, hc1, ← hq']
        rfl
      have hc2 : (bif (decide (q.f73 ≥ 1)) then (decide (q.f73 ≤ 6)) else false) = false := by
        by_cases b1 : q.f73 < 1
        · rw [decide_eq_false (show ¬ q.f73 ≥ 1 by omega)]; rfl
        · by_cases b2 : q.f73 > 6
          · rw [decide_eq_true (show q.f73 ≥ 1 by omega), decide_eq_false (show ¬ q.f73 ≤ 6 by omega)]; rfl
          · rw [decide_eq_false b1, decide_eq_false b2] at hc1; cases hc1
      have f73 : q'.f73 = 1 := by rw [hq']
      have f9 : q'.f9 = false := by rw [hq']
      have f7 : q'.f7 = false := by rw [hq']
      have hlen : ((wth z n q').f16.length : Int) = z.f16.length := by rw [wth_len]
      simp only [hr, hc2, get_optS, cond_true, cond_false, get_br, hlen, beq_self_eq_true, decide_eq_true hin.1, wth_at q' hin, f73, f9, f7, Bool.not_false, awake_true, get_leaf]
  · rw [out_q h]
    simp only [Bool.not_false, cond_true, awake_true, get_optS, get_leaf]
end Ab13
