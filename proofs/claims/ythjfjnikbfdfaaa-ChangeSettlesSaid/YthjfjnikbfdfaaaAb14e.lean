/- Seat 14: more plain laws. -/
import Derived.Test.YthjfjnikbfdfaaaAb14d
set_option maxRecDepth 100000
set_option maxHeartbeats 400000
set_option linter.unusedVariables false
set_option linter.unusedSimpArgs false
namespace Ab14
open Go Ab

/-- What becomes of the port itself: the cases. -/
def Step (x : S5) (p q : S0) : Prop :=
  (p.f74 = 1 ∧ p.f9 = true ∧ p.f6 = false ∧ q = lrn p) ∨
  (p.f74 = 2 ∧ plc p = true ∧ p.f7 = true ∧ q = { nq x p with f11 := true, f74 := 3 }) ∨
  (p.f74 = 2 ∧ plc p = false ∧ p.f9 = false ∧ p.f10 = false ∧ came p = false ∧ q = qui p) ∨
  (p.f74 = 2 ∧ came p = true ∧ q = lrn p) ∨
  (p.f74 = 3 ∧ plc p = false ∧ q = lrn p) ∨
  (p.f74 = 3 ∧ plc p = true ∧ p.f19 = true ∧ q = { nq x p with f17 := false, f19 := false, f26 := (nq x p).f26 || (nq x p).f30 == 4 }) ∨
  (p.f74 = 3 ∧ plc p = true ∧ p.f17 = true ∧ q = { p with f17 := false, f19 := false, f26 := p.f26 || p.f30 == 4 }) ∨
  (p.f74 = 3 ∧ plc p = true ∧ p.f19 = false ∧ p.f17 = false ∧ p.f27 = true ∧ q = { nq x p with f6 := true, f27 := false }) ∨
  (p.f74 = 3 ∧ plc p = true ∧ p.f19 = false ∧ p.f17 = false ∧ p.f27 = false ∧ p.f18 = true ∧ q = { p with f18 := false, f71 := 0 }) ∨
  (p.f74 ≠ 1 ∧ p.f74 ≠ 2 ∧ p.f74 ≠ 3 ∧ q = qui p)

/-- Trees that differ from one in ports alone, and of the others in what they are to tell. -/
def Near (x y : S5) (k : Nat) : Prop := y = { x with f16 := y.f16 } ∧ y.f16.length = x.f16.length ∧
  ∀ (j : Nat) p, j ≠ k → x.f16[j]? = some p → y.f16[j]? = some p ∨ y.f16[j]? = some { p with f27 := true }

theorem near_self (x : S5) (k : Nat) : Near x x k := ⟨rfl, rfl, fun j p hj hp => .inl hp⟩
theorem near_upd {x y : S5} {k : Nat} (h : Near x y k) (q : S0) : Near x (upd y k q) k := by
  obtain ⟨h1, h2, h3⟩ := h
  refine ⟨?_, by rw [upd_len]; exact h2, fun j p hj hp => ?_⟩
  · unfold upd; rw [h1]
  · have : (upd y k q).f16[j]? = y.f16[j]? := by simp [upd, List.getElem?_set, Ne.symm hj]
    rw [this]; exact h3 j p hj hp
theorem near_prop {x y : S5} {k : Nat} (h : Near x y k) : Near x (prop y (k : Int)) k := by
  obtain ⟨h1, h2, h3⟩ := h
  refine ⟨?_, by rw [prop_len]; exact h2, fun j p hj hp => ?_⟩
  · unfold prop; rw [h1]
  · have hne : ¬ ((j : Int) = (k : Int)) := by omega
    rcases h3 j p hj hp with h | h
    · right; simp [prop, h, tcp, hne]
    · right; simp [prop, h, tcp, hne]
theorem near_nw {x y : S5} {k : Nat} (h : Near x y k) (p : S0) : Near x (nw y k p) k := by
  unfold nw; split
  · exact near_upd h _
  · exact h

theorem tcm_step {x : S5} {k : Nat} {p : S0} (hk : k < x.f16.length) (hp : x.f16[k]? = some p) : ∃ y q ok, tcm x k p = (y, ok) ∧ Near x y k ∧ y.f16[k]? = some q ∧ (ok = false ∧ q = p ∧ y = x ∨ ok = true ∧ Step x p q) := by
  have hnk : k < (nw x k p).f16.length := by rw [nw_len]; exact hk
  have hpk : k < (prop (nw x k p) (k : Int)).f16.length := by rw [prop_len]; exact hnk
  have nn := near_nw (near_self x k) p
  have no : tcm x k p = (x, false) → ∃ y q ok, tcm x k p = (y, ok) ∧ Near x y k ∧ y.f16[k]? = some q ∧ (ok = false ∧ q = p ∧ y = x ∨ ok = true ∧ Step x p q) := fun e => ⟨x, p, false, e, near_self x k, hp, .inl ⟨rfl, rfl, rfl⟩⟩
  have u0 : ∀ q, tcm x k p = (upd x k q, true) → Step x p q → ∃ y q ok, tcm x k p = (y, ok) ∧ Near x y k ∧ y.f16[k]? = some q ∧ (ok = false ∧ q = p ∧ y = x ∨ ok = true ∧ Step x p q) :=
    fun q e hs => ⟨_, q, true, e, near_upd (near_self x k) q, upd_get _ hk, .inr ⟨rfl, hs⟩⟩
  have u1 : ∀ q, tcm x k p = (upd (nw x k p) k q, true) → Step x p q → ∃ y q ok, tcm x k p = (y, ok) ∧ Near x y k ∧ y.f16[k]? = some q ∧ (ok = false ∧ q = p ∧ y = x ∨ ok = true ∧ Step x p q) :=
    fun q e hs => ⟨_, q, true, e, near_upd nn q, upd_get _ hnk, .inr ⟨rfl, hs⟩⟩
  have u2 : ∀ q, tcm x k p = (prop (upd (nw x k p) k q) (k : Int), true) → Step x p q → ∃ y q ok, tcm x k p = (y, ok) ∧ Near x y k ∧ y.f16[k]? = some q ∧ (ok = false ∧ q = p ∧ y = x ∨ ok = true ∧ Step x p q) :=
    fun q e hs => ⟨_, q, true, e, near_prop (near_upd nn q), prop_get (upd_get _ hnk), .inr ⟨rfl, hs⟩⟩
  have u3 : ∀ q, tcm x k p = (prop (upd x k q) (k : Int), true) → Step x p q → ∃ y q ok, tcm x k p = (y, ok) ∧ Near x y k ∧ y.f16[k]? = some q ∧ (ok = false ∧ q = p ∧ y = x ∨ ok = true ∧ Step x p q) :=
    fun q e hs => ⟨_, q, true, e, near_prop (near_upd (near_self x k) q), prop_get (upd_get _ hk), .inr ⟨rfl, hs⟩⟩
  have u4 : ∀ q, tcm x k p = (upd (prop (nw x k p) (k : Int)) k q, true) → Step x p q → ∃ y q ok, tcm x k p = (y, ok) ∧ Near x y k ∧ y.f16[k]? = some q ∧ (ok = false ∧ q = p ∧ y = x ∨ ok = true ∧ Step x p q) :=
    fun q e hs => ⟨_, q, true, e, near_upd (near_prop nn) q, upd_get _ hpk, .inr ⟨rfl, hs⟩⟩
  by_cases a1 : p.f74 = 1
  · by_cases c : (p.f9 && !p.f6) = true
    · have c' := c
      simp only [Bool.and_eq_true, Bool.not_eq_true'] at c'
      exact u0 _ (by unfold tcm; rw [if_pos a1, if_pos c]) (.inl ⟨a1, c'.1, c'.2, rfl⟩)
    · exact no (by unfold tcm; rw [if_pos a1, if_neg c])
  by_cases a2 : p.f74 = 2
  · by_cases c : (plc p && p.f7) = true
    · have c' := c
      simp only [Bool.and_eq_true] at c'
      exact u4 _ (by unfold tcm lea; rw [if_neg a1, if_pos a2, if_pos c]) (.inr (.inl ⟨a2, c'.1, c'.2, rfl⟩))
    by_cases d : (!plc p && !p.f9 && !p.f10 && !came p) = true
    · have d' := d
      simp only [Bool.and_eq_true, Bool.not_eq_true'] at d'
      exact u0 _ (by unfold tcm lea; rw [if_neg a1, if_pos a2, if_neg c, if_pos d]) (.inr (.inr (.inl ⟨a2, d'.1.1.1, d'.1.1.2, d'.1.2, d'.2, rfl⟩)))
    by_cases f : came p = true
    · exact u0 _ (by unfold tcm lea; rw [if_neg a1, if_pos a2, if_neg c, if_neg d, if_pos f]) (.inr (.inr (.inr (.inl ⟨a2, f, rfl⟩))))
    · exact no (by unfold tcm lea; rw [if_neg a1, if_pos a2, if_neg c, if_neg d, if_neg f])
  by_cases a3 : p.f74 = 3
  · by_cases b : plc p = false
    · exact u0 _ (by unfold tcm act; rw [if_neg a1, if_neg a2, if_pos a3, if_pos b]) (.inr (.inr (.inr (.inr (.inl ⟨a3, b, rfl⟩)))))
    have b' : plc p = true := by simpa using b
    by_cases c : p.f19 = true
    · exact u2 _ (by unfold tcm act; rw [if_neg a1, if_neg a2, if_pos a3, if_neg b, if_pos c]) (.inr (.inr (.inr (.inr (.inr (.inl ⟨a3, b', c, rfl⟩))))))
    by_cases d : p.f17 = true
    · exact u3 _ (by unfold tcm act; rw [if_neg a1, if_neg a2, if_pos a3, if_neg b, if_neg c, if_pos d]) (.inr (.inr (.inr (.inr (.inr (.inr (.inl ⟨a3, b', d, rfl⟩)))))))
    by_cases f : p.f27 = true
    · exact u1 _ (by unfold tcm act; rw [if_neg a1, if_neg a2, if_pos a3, if_neg b, if_neg c, if_neg d, if_pos f]) (.inr (.inr (.inr (.inr (.inr (.inr (.inr (.inl ⟨a3, b', by simpa using c, by simpa using d, f, rfl⟩))))))))
    by_cases g : p.f18 = true
    · exact u0 _ (by unfold tcm act; rw [if_neg a1, if_neg a2, if_pos a3, if_neg b, if_neg c, if_neg d, if_neg f, if_pos g]) (.inr (.inr (.inr (.inr (.inr (.inr (.inr (.inr (.inl ⟨a3, b', by simpa using c, by simpa using d, by simpa using f, g, rfl⟩)))))))))
    · exact no (by unfold tcm act; rw [if_neg a1, if_neg a2, if_pos a3, if_neg b, if_neg c, if_neg d, if_neg f, if_neg g])
  · exact u0 _ (by unfold tcm; rw [if_neg a1, if_neg a2, if_neg a3]) (.inr (.inr (.inr (.inr (.inr (.inr (.inr (.inr (.inr ⟨a1, a2, a3, rfl⟩)))))))))

end Ab14
