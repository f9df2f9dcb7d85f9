/- Seat 31: the plain laws: no more than is committed. -/
import Derived.Test.YtcdimepfojdjdaaAb31d
set_option maxRecDepth 100000
set_option maxHeartbeats 1000000
set_option linter.unusedVariables false
set_option linter.unusedSimpArgs false
namespace Ab31
open Go Ab

def gv (e : S2) : Int := if e.f2 = 1 then e.f1 else 0
def av (e : S2) : Int := if e.f2 = 3 then 0 else e.f1
def pg (D : List S2) (k : Nat) : Int := ((D.take k).map gv).sum
def pa (D : List S2) (k : Nat) : Int := ((D.take k).map av).sum

theorem sum_app (l m : List Int) : (l ++ m).sum = l.sum + m.sum := by
  induction l with
  | nil => simp
  | cons a l ih => simp [ih, Int.add_assoc]
theorem pg_succ {D : List S2} {k : Nat} {e : S2} (h : D[k]? = some e) : pg D (k + 1) = pg D k + gv e ∧ pa D (k + 1) = pa D k + av e := by
  unfold pg pa
  rw [List.take_add_one, h]
  simp [sum_app]
theorem pg_app {D : List S2} {e : S2} {k : Nat} (h : k ≤ D.length) : pg (D ++ [e]) k = pg D k ∧ pa (D ++ [e]) k = pa D k := by
  unfold pg pa
  rw [List.take_append_of_le_length h]
  exact ⟨rfl, rfl⟩
theorem pg_last {D : List S2} {e : S2} : pg (D ++ [e]) (D ++ [e]).length = pg D D.length + gv e ∧ pa (D ++ [e]) (D ++ [e]).length = pa D D.length + av e := by
  unfold pg pa
  simp only [List.take_length, List.map_append, sum_app, List.map_cons, List.map_nil, List.sum_cons, List.sum_nil, Int.add_zero, and_self]
theorem pg_rg {D : List S2} (h : ∀ (i : Nat) e, D[i]? = some e → 1 ≤ e.f1 ∧ e.f1 ≤ 2048) : ∀ k, (0 ≤ pg D k ∧ pg D k ≤ 2048 * k) ∧ (0 ≤ pa D k ∧ pa D k ≤ 2048 * k)
  | 0 => by simp [pg, pa]
  | k + 1 => by
    have ih := pg_rg h k
    cases hk : D[k]? with
    | none =>
      have hl : D.length ≤ k := by simpa using hk
      have : pg D (k + 1) = pg D k ∧ pa D (k + 1) = pa D k := by
        unfold pg pa
        rw [List.take_of_length_le (by omega), List.take_of_length_le hl]
        exact ⟨rfl, rfl⟩
      rw [this.1, this.2]
      omega
    | some e =>
      have h1 := h k e hk
      have := pg_succ hk
      rw [this.1, this.2]
      have h2 : 0 ≤ gv e ∧ gv e ≤ 2048 := by unfold gv; split <;> omega
      have h3 : 0 ≤ av e ∧ av e ≤ 2048 := by unfold av; split <;> omega
      omega

theorem cm_le {r d : Int} (hr : 0 ≤ r ∧ r ≤ 1073741824) (hd : 0 ≤ d ∧ d ≤ 1099511627776) : cm r d ≤ r * d := by
  unfold cm
  split
  · rename_i h
    have h1 : 8589934592 / r + 1 ≤ d := by omega
    have h2 : r * (8589934592 / r + 1) ≤ r * d := Int.mul_le_mul_of_nonneg_left h1 hr.1
    have h3 := Int.lt_mul_ediv_self_add (x := 8589934592) (k := r) h.1
    rw [Int.mul_add, Int.mul_one] at h2
    omega
  · exact Int.le_refl _

theorem mn_le (a b : Int) : mnI a b ≤ a ∧ mnI a b ≤ b := by unfold mnI; split <;> omega

theorem fill_le {m : S3} {t : Int} (hm : Cf m) (ht : m.f8 ≤ t ∧ t ≤ 1099511627776) :
    (fillP m t).f6 ≤ m.f6 + m.f0 * (t - m.f8) ∧ (fillP m t).f6 + (fillP m t).f7 ≤ m.f6 + m.f7 + (m.f0 + m.f2) * (t - m.f8) := by
  have h1 := cm_le hm.c0 (d := t - m.f8) (by have := hm.t; omega)
  have h2 := cm_le hm.c2 (d := t - m.f8) (by have := hm.t; omega)
  have e6 : (fillP m t).f6 = mnI (m.f6 + cm m.f0 (t - m.f8)) m.f1 := rfl
  have e7 : (fillP m t).f7 = mnI (m.f7 + cm m.f2 (t - m.f8) + (bif m.f4 then m.f6 + cm m.f0 (t - m.f8) - mnI (m.f6 + cm m.f0 (t - m.f8)) m.f1 else 0)) m.f3 := rfl
  have h3 := mn_le (m.f6 + cm m.f0 (t - m.f8)) m.f1
  have h4 := mn_le (m.f7 + cm m.f2 (t - m.f8) + (bif m.f4 then m.f6 + cm m.f0 (t - m.f8) - mnI (m.f6 + cm m.f0 (t - m.f8)) m.f1 else 0)) m.f3
  rw [e6, e7, Int.add_mul]
  refine ⟨by omega, ?_⟩
  cases h5 : m.f4
  · rw [h5] at h4; simp only [cond_false] at h4 ⊢; omega
  · rw [h5] at h4; simp only [cond_true] at h4 ⊢; omega

theorem fill0 {m : S3} (hm : Cf m) : (fillP m m.f8).f6 = m.f6 ∧ (fillP m m.f8).f7 = m.f7 := by
  have hc : ∀ r : Int, cm r 0 = 0 ∨ (0 < r ∧ 8589934592 / r < 0) := by
    intro r
    unfold cm
    split
    · rename_i h; exact .inr h
    · left; simp
  have hz : ∀ r : Int, 0 ≤ r → cm r 0 = 0 := by
    intro r hr
    rcases hc r with h | ⟨h1, h2⟩
    · exact h
    · have : 0 ≤ 8589934592 / r := Int.ediv_nonneg (by omega) hr
      omega
  have e6 : (fillP m m.f8).f6 = mnI (m.f6 + cm m.f0 (m.f8 - m.f8)) m.f1 := rfl
  have e7 : (fillP m m.f8).f7 = mnI (m.f7 + cm m.f2 (m.f8 - m.f8) + (bif m.f4 then m.f6 + cm m.f0 (m.f8 - m.f8) - mnI (m.f6 + cm m.f0 (m.f8 - m.f8)) m.f1 else 0)) m.f3 := rfl
  rw [e6, e7, Int.sub_self, hz _ hm.c0.1, hz _ hm.c2.1]
  have a : mnI (m.f6 + 0) m.f1 = m.f6 := by unfold mnI; have := hm.g; split <;> omega
  rw [a]
  refine ⟨rfl, ?_⟩
  have : (bif m.f4 then m.f6 + 0 - m.f6 else 0) = 0 := by cases m.f4 <;> simp
  rw [this]
  unfold mnI; have := hm.e; split <;> omega

/-- What a mark does. -/
theorem mark_ok {m : S3} (hm : Cf m) {t s c : Int} (ht : m.f8 ≤ t ∧ t ≤ 1099511627776) :
    ((markP m t s c).2.2 ≠ 0 ∧ (markP m t s c).1 = m) ∨
    ((markP m t s c).2.2 = 0 ∧ (1 ≤ s ∧ s ≤ 2048) ∧ (markP m t s c).1.f8 = t ∧ gv ⟨t, s, (markP m t s c).2.1⟩ + (markP m t s c).1.f6 = (fillP m t).f6 ∧
      av ⟨t, s, (markP m t s c).2.1⟩ + (markP m t s c).1.f6 + (markP m t s c).1.f7 = (fillP m t).f6 + (fillP m t).f7 ∧ ((markP m t s c).2.1 = 3 → (markP m t s c).1 = fillP m t)) := by
  unfold markP
  rw [if_neg (by simpa using ht)]
  split
  · left; exact ⟨by show (310 : Int) ≠ 0; omega, rfl⟩
  · rename_i h
    right
    split
    · refine ⟨rfl, by omega, rfl, ?_, ?_, by simp⟩
      · simp [gv]; omega
      · simp [av]; omega
    · split
      · refine ⟨rfl, by omega, rfl, ?_, ?_, by simp⟩
        · simp [gv]
        · simp [av]; omega
      · refine ⟨rfl, by omega, rfl, ?_, ?_, fun _ => rfl⟩
        · simp [gv]
        · simp [av]
theorem mark_conf (m : S3) (t s c : Int) : (markP m t s c).1.f0 = m.f0 ∧ (markP m t s c).1.f1 = m.f1 ∧ (markP m t s c).1.f2 = m.f2 ∧ (markP m t s c).1.f3 = m.f3 := by
  unfold markP
  repeat' split
  all_goals exact ⟨rfl, rfl, rfl, rfl⟩

structure J (C : S7) (D : List S2) (m : S3) (tick : Int) : Prop where
  cf : Cf m
  conf : m.f0 = C.f0 ∧ m.f1 = C.f1 ∧ m.f2 = C.f2 ∧ m.f3 = C.f3
  last : m.f8 ≤ tick
  ent : ∀ (i : Nat) e, D[i]? = some e → (1 ≤ e.f1 ∧ e.f1 ≤ 2048) ∧ 0 ≤ e.f0 ∧ e.f0 ≤ m.f8
  hb : ∀ (i : Nat) e, D[i]? = some e → pg D D.length - pg D i + m.f6 ≤ C.f1 + C.f0 * (m.f8 - e.f0) ∧ pa D D.length - pa D i + m.f6 + m.f7 ≤ C.f1 + C.f3 + (C.f0 + C.f2) * (m.f8 - e.f0)
  bd : ∀ (i k : Nat) e e', i ≤ k → D[i]? = some e → D[k]? = some e' → pg D (k + 1) - pg D i ≤ C.f1 + C.f0 * (e'.f0 - e.f0) ∧ pa D (k + 1) - pa D i ≤ C.f1 + C.f3 + (C.f0 + C.f2) * (e'.f0 - e.f0)

theorem get_snoc {D : List S2} {e e' : S2} {i : Nat} (h : (D ++ [e])[i]? = some e') : (i < D.length ∧ D[i]? = some e') ∨ (i = D.length ∧ e' = e) := by
  rcases Nat.lt_or_ge i D.length with h1 | h1
  · left; rw [List.getElem?_append_left h1] at h; exact ⟨h1, h⟩
  · right
    rw [List.getElem?_append_right h1] at h
    have : i - D.length = 0 := by
      rcases Nat.eq_zero_or_pos (i - D.length) with h2 | h2
      · exact h2
      · rw [List.getElem?_eq_none (by rw [List.length_singleton]; exact h2)] at h; cases h
    rw [this] at h
    exact ⟨by omega, by simpa using h.symm⟩

theorem J.step {C : S7} {D : List S2} {m : S3} {tick t s c : Int} (j : J C D m tick) (ht : tick ≤ t ∧ t ≤ 1099511627776) :
    ((markP m t s c).2.2 ≠ 0 ∧ J C D (markP m t s c).1 t) ∨ ((markP m t s c).2.2 = 0 ∧ J C (D ++ [⟨t, s, (markP m t s c).2.1⟩]) (markP m t s c).1 t) := by
  have hm := j.cf
  have hl := j.last
  have h8 : m.f8 ≤ t ∧ t ≤ 1099511627776 := ⟨by omega, ht.2⟩
  rcases mark_ok hm (s := s) (c := c) h8 with ⟨h1, h2⟩ | ⟨h1, hs, h3, h4, h5, h6⟩
  · left
    rw [h2]
    exact ⟨h1, hm, j.conf, h8.1, j.ent, j.hb, j.bd⟩
  · right
    refine ⟨h1, ?_⟩
    have hf := fill_le hm h8
    have hF := fill_cf hm h8
    have hM := mark_cf hm t s c
    have hc := mark_conf m t s c
    obtain ⟨c0, c1, c2, c3⟩ := j.conf
    generalize hx : (markP m t s c).2.1 = x at *
    generalize hM' : (markP m t s c).1 = M at *
    have hg6 := hM.g; have hg7 := hM.e
    have z6 := hF.g; have z7 := hF.e
    have k1 : (fillP m t).f1 = C.f1 := c1
    have k3 : (fillP m t).f3 = C.f3 := c3
    have hbn : ∀ (i : Nat) e, (D ++ [S2.mk t s x])[i]? = some e → pg (D ++ [S2.mk t s x]) (D ++ [S2.mk t s x]).length - pg (D ++ [S2.mk t s x]) i + M.f6 ≤ C.f1 + C.f0 * (M.f8 - e.f0) ∧
        pa (D ++ [S2.mk t s x]) (D ++ [S2.mk t s x]).length - pa (D ++ [S2.mk t s x]) i + M.f6 + M.f7 ≤ C.f1 + C.f3 + (C.f0 + C.f2) * (M.f8 - e.f0) := by
      intro i e he
      rw [pg_last.1, pg_last.2, h3]
      rcases get_snoc he with ⟨hi, he⟩ | ⟨hi, rfl⟩
      · rw [(pg_app (e := S2.mk t s x) (Nat.le_of_lt hi)).1, (pg_app (e := S2.mk t s x) (Nat.le_of_lt hi)).2]
        have hb := j.hb i e he
        have e1 : C.f0 * (t - e.f0) = C.f0 * (m.f8 - e.f0) + C.f0 * (t - m.f8) := by rw [← Int.mul_add]; congr 1; omega
        have e2 : (C.f0 + C.f2) * (t - e.f0) = (C.f0 + C.f2) * (m.f8 - e.f0) + (C.f0 + C.f2) * (t - m.f8) := by rw [← Int.mul_add]; congr 1; omega
        rw [c0, c2] at hf
        rw [e1, e2]
        omega
      · subst hi
        rw [(pg_app (D := D) (e := S2.mk t s x) (Nat.le_refl _)).1, (pg_app (D := D) (e := S2.mk t s x) (Nat.le_refl _)).2]
        simp only [Int.sub_self, Int.mul_zero]
        omega
    refine ⟨hM, ⟨by rw [hc.1, c0], by rw [hc.2.1, c1], by rw [hc.2.2.1, c2], by rw [hc.2.2.2, c3]⟩, by rw [h3]; exact Int.le_refl _, fun i e he => ?_, hbn, fun i k e e' hik he he' => ?_⟩
    · rw [h3]
      rcases get_snoc he with ⟨hi, he⟩ | ⟨hi, rfl⟩
      · have := j.ent i e he; omega
      · have := hm.t; simp only; omega
    · rcases get_snoc he' with ⟨hk, he'⟩ | ⟨hk, rfl⟩
      · have he2 : D[i]? = some e := by rw [List.getElem?_append_left (by omega)] at he; exact he
        rw [(pg_app (e := S2.mk t s x) (show k + 1 ≤ D.length by omega)).1, (pg_app (e := S2.mk t s x) (show k + 1 ≤ D.length by omega)).2, (pg_app (e := S2.mk t s x) (show i ≤ D.length by omega)).1, (pg_app (e := S2.mk t s x) (show i ≤ D.length by omega)).2]
        exact j.bd i k e e' hik he2 he'
      · have := hbn i e he
        rw [h3] at this
        simp only [List.length_append, List.length_singleton] at this
        rw [hk]
        simp only
        omega

def okS (C : S7) : Prop := (0 ≤ C.f0 ∧ C.f0 < 300) ∧ (0 ≤ C.f1 ∧ C.f1 < 3000) ∧ (0 ≤ C.f2 ∧ C.f2 < 300) ∧ (0 ≤ C.f3 ∧ C.f3 < 3000)

theorem later_rg (n : Int) : 0 ≤ IntKind.i64.wrap (remI (IntKind.u64.wrap n) 8) ∧ IntKind.i64.wrap (remI (IntKind.u64.wrap n) 8) ≤ 7 := by
  rw [wr_u64, remI_eq _ (by omega), w64 (by omega)]
  omega

theorem loopA (C : S7) (hC : okS C) (v : W4_0v1) (h3 : v.a3 = 0) (h2 : v.a2 = 0) (h4 : v.a4 = C) (h6 : v.a6 = []) (hm : Cf v.a5) (hcf : v.a5.f0 = C.f0 ∧ v.a5.f1 = C.f1 ∧ v.a5.f2 = C.f2 ∧ v.a5.f3 = C.f3) (h8 : v.a5.f8 = 0) :
    ∃ w, iter2 gR4_0v1 1000000 v = some (.inl w) ∧ w.a4 = C ∧ w.a6.length ≤ 40 ∧ ∃ t, t ≤ 320 ∧ J C w.a6 w.a5 t := by
  refine iter2_inv (R := gR4_0v1) (fun j v => v.a3 = (j : Int) ∧ j ≤ 40 ∧ (0 ≤ v.a2 ∧ v.a2 ≤ 8 * (j : Int)) ∧ v.a4 = C ∧ v.a6.length ≤ j ∧ J C v.a6 v.a5 v.a2) (fun w => w.a4 = C ∧ w.a6.length ≤ 40 ∧ ∃ t, t ≤ 320 ∧ J C w.a6 w.a5 t) 40 (fun j v h => h.2.1)
    (fun j v ⟨e3, ej, e2, e4, el, jj⟩ => ?_) 1000000 0 v ⟨by simpa using h3, by omega, by omega, h4, by simp [h6], ?_⟩ (by omega)
  · have stop : (bif (decide (v.a3 < (v.a0.length : Int))) then (decide (v.a3 < 40)) else false) = false → ∃ w, (gR4_0v1 v).get? = some (.inr (.inl w)) ∧ w.a4 = C ∧ w.a6.length ≤ 40 ∧ ∃ t, t ≤ 320 ∧ J C w.a6 w.a5 t := by
      intro hg
      unfold gR4_0v1
      simp only [get_br, get_leaf, hg, cond_false]
      exact ⟨v, rfl, e4, by omega, v.a2, by omega, jj⟩
    by_cases hl : v.a3 < (v.a0.length : Int)
    · by_cases hj : v.a3 < 40
      · left
        unfold gR4_0v1
        simp only [get_br, get_opt, get_leaf, get_fail]
        have hg : (bif (decide (v.a3 < (v.a0.length : Int))) then (decide (v.a3 < 40)) else false) = true := by simp [hl, hj]
        have hp : (0 : Int) ≤ v.a3 := by omega
        obtain ⟨y, hy⟩ : ∃ y, v.a0[Int.toNat v.a3]? = some y := by
          rw [List.getElem?_eq_getElem (by omega)]; exact ⟨_, rfl⟩
        have hlr := later_rg y.f0
        have hw4 : IntKind.i64.wrap (v.a3 + 1) = v.a3 + 1 := w64 (by omega)
        generalize hT : IntKind.i64.wrap (remI (IntKind.u64.wrap y.f0) 8) = d at *
        have hwt : IntKind.i64.wrap (v.a2 + d) = v.a2 + d := w64 (by omega)
        have hm := jj.cf
        have h8 : v.a5.f8 ≤ v.a2 + d ∧ v.a2 + d ≤ 1099511627776 := ⟨by have := jj.last; omega, by omega⟩
        have hmk := mark_ok hm (s := y.f1) (c := y.f2) h8
        have hst := jj.step (s := y.f1) (c := y.f2) (t := v.a2 + d) ⟨by omega, by omega⟩
        simp only [hg, cond_true, hp, decide_true, hy, Option.bind_some, hT, hwt, g11_eq hm, g10_eq hm, hw4]
        rcases hst with ⟨s1, s2⟩ | ⟨s1, s2⟩
        · have : ((markP v.a5 (v.a2 + d) y.f1 y.f2).2.2 != 0) = true := by simp [s1]
          simp only [this, cond_true]
          exact ⟨_, rfl, by simp only; omega, by omega, by simp only; omega, e4, by simp only; omega, s2⟩
        · have hne : ((markP v.a5 (v.a2 + d) y.f1 y.f2).2.2 != 0) = false := by simp [s1]
          have hM := s2.cf
          simp only [hne, cond_false, g11_eq hM, Option.bind_some]
          have hlv : (bif ((markP v.a5 (v.a2 + d) y.f1 y.f2).2.1 == 3) then (bif ((lev v.a5 (v.a2 + d)).1 != (lev (markP v.a5 (v.a2 + d) y.f1 y.f2).1 (v.a2 + d)).1) then true else ((lev v.a5 (v.a2 + d)).2 != (lev (markP v.a5 (v.a2 + d) y.f1 y.f2).1 (v.a2 + d)).2)) else false) = false := by
            by_cases hr : (markP v.a5 (v.a2 + d) y.f1 y.f2).2.1 = 3
            · rcases hmk with ⟨q1, _⟩ | ⟨_, _, _, _, _, q6⟩
              · exact absurd s1 q1
              · have q := q6 hr
                rw [q]
                have hF := fill_cf hm h8
                have f8 : (fillP v.a5 (v.a2 + d)).f8 = v.a2 + d := rfl
                have l1 : lev v.a5 (v.a2 + d) = ((fillP v.a5 (v.a2 + d)).f6, (fillP v.a5 (v.a2 + d)).f7) := by unfold lev; rw [if_pos h8]
                have l2 : lev (fillP v.a5 (v.a2 + d)) (v.a2 + d) = ((fillP v.a5 (v.a2 + d)).f6, (fillP v.a5 (v.a2 + d)).f7) := by
                  unfold lev
                  rw [f8, if_pos ⟨Int.le_refl _, h8.2⟩]
                  have := fill0 hF
                  rw [f8] at this
                  rw [this.1, this.2]
                rw [l1, l2]
                simp
            · have : ((markP v.a5 (v.a2 + d) y.f1 y.f2).2.1 == 3) = false := by simp [hr]
              rw [this]; rfl
          rw [hlv]
          have hbnd : (Nat.ble (v.a6.length + 1) 140737488355328 && Nat.ble ((v.a6.length + 1) * 24) 140737488355328) = true := by
            simp only [Bool.and_eq_true, Nat.ble_eq]; omega
          simp only [cond_false, hbnd, cond_true]
          exact ⟨_, rfl, by simp only; omega, by omega, by simp only; omega, e4, by simp only [List.length_append, List.length_singleton]; omega, s2⟩
      · right; exact stop (by simp [hl, hj])
    · right; exact stop (by simp [hl])
  · rw [h6, h2]
    refine ⟨hm, hcf, by omega, ?_, ?_, ?_⟩
    · intro i e he; simp at he
    · intro i e he; simp at he
    · intro i k e e' _ he; simp at he

theorem loopB (C : S7) (hC : okS C) (D : List S2) (hD : D.length ≤ 40) (m : S3) (t : Int) (ht : t ≤ 320) (j : J C D m t) (i : Nat) (hi : i < D.length) (v : W4_4v1) (e4 : v.a4 = i) (e5 : v.a5 = 0) (e6 : v.a6 = 0) (e7 : v.a7 = i) (e8 : v.a8 = C) (e10 : v.a10 = D) :
    ∃ w, iter2 gR4_4v1 1000000 v = some (.inl w) ∧ w.a4 = i ∧ w.a8 = C ∧ w.a10 = D := by
  refine iter2_inv (R := gR4_4v1) (fun k v => v.a4 = i ∧ v.a8 = C ∧ v.a10 = D ∧ i + k ≤ D.length ∧ v.a7 = ((i + k : Nat) : Int) ∧ v.a5 = pg D (i + k) - pg D i ∧ v.a6 = pa D (i + k) - pa D i) (fun w => w.a4 = i ∧ w.a8 = C ∧ w.a10 = D) 40 (fun k v h => by omega)
    (fun k v ⟨e4, e8, e10, hk, e7, e5, e6⟩ => ?_) 1000000 0 v ⟨e4, e8, e10, by omega, by simpa using e7, by rw [e5]; simp, by rw [e6]; simp⟩ (by omega)
  by_cases hl : v.a7 < (v.a10.length : Int)
  · left
    have hlen : i + k < D.length := by rw [e7, e10] at hl; omega
    obtain ⟨y, hy⟩ : ∃ y, D[i + k]? = some y := by
      rw [List.getElem?_eq_getElem (by omega)]; exact ⟨_, rfl⟩
    obtain ⟨z, hz⟩ : ∃ z, D[i]? = some z := by
      rw [List.getElem?_eq_getElem (by omega)]; exact ⟨_, rfl⟩
    have hy' : v.a10[Int.toNat v.a7]? = some y := by rw [e10, e7, Int.toNat_natCast]; exact hy
    have hz' : v.a10[Int.toNat v.a4]? = some z := by rw [e10, e4, Int.toNat_natCast]; exact hz
    have p7 : 0 ≤ v.a7 := by omega
    have g4 : (decide (0 ≤ v.a4) && decide (v.a4 < (v.a10.length : Int))) = true := by
      simp only [Bool.and_eq_true, decide_eq_true_eq]; omega
    have ey := j.ent _ _ hy
    have ez := j.ent _ _ hz
    have hps := pg_succ hy
    have hbd := j.bd i (i + k) z y (by omega) hz hy
    have hr1 := pg_rg (fun i e he => (j.ent i e he).1) (i + k)
    have hr2 := pg_rg (fun i e he => (j.ent i e he).1) i
    have hlt : m.f8 ≤ 320 := by have := j.last; omega
    obtain ⟨o0, o1, o2, o3⟩ := hC
    have hdz : 0 ≤ y.f0 ∧ y.f0 ≤ 320 ∧ 0 ≤ z.f0 ∧ z.f0 ≤ 320 := by omega
    have wd : IntKind.i64.wrap (y.f0 - z.f0) = y.f0 - z.f0 := w64 (by omega)
    have p1 : -300000 ≤ C.f0 * (y.f0 - z.f0) ∧ C.f0 * (y.f0 - z.f0) ≤ 300000 := by
      have a1 := Int.mul_le_mul_of_nonneg_left (show y.f0 - z.f0 ≤ 320 by omega) o0.1
      have a2 := Int.mul_le_mul_of_nonneg_left (show -320 ≤ y.f0 - z.f0 by omega) o0.1
      omega
    have p2 : -300000 ≤ (C.f0 + C.f2) * (y.f0 - z.f0) ∧ (C.f0 + C.f2) * (y.f0 - z.f0) ≤ 300000 := by
      have a1 := Int.mul_le_mul_of_nonneg_left (show y.f0 - z.f0 ≤ 320 by omega) (show 0 ≤ C.f0 + C.f2 by omega)
      have a2 := Int.mul_le_mul_of_nonneg_left (show -320 ≤ y.f0 - z.f0 by omega) (show 0 ≤ C.f0 + C.f2 by omega)
      omega
    have wp1 : IntKind.i64.wrap (C.f0 * (y.f0 - z.f0)) = C.f0 * (y.f0 - z.f0) := w64 (by omega)
    have ws : IntKind.i64.wrap (C.f0 + C.f2) = C.f0 + C.f2 := w64 (by omega)
    have wc : IntKind.i64.wrap (C.f1 + C.f3) = C.f1 + C.f3 := w64 (by omega)
    have wp2 : IntKind.i64.wrap ((C.f0 + C.f2) * (y.f0 - z.f0)) = (C.f0 + C.f2) * (y.f0 - z.f0) := w64 (by omega)
    have wq1 : IntKind.i64.wrap (C.f1 + C.f0 * (y.f0 - z.f0)) = C.f1 + C.f0 * (y.f0 - z.f0) := w64 (by omega)
    have wq2 : IntKind.i64.wrap (C.f1 + C.f3 + (C.f0 + C.f2) * (y.f0 - z.f0)) = C.f1 + C.f3 + (C.f0 + C.f2) * (y.f0 - z.f0) := w64 (by omega)
    have wa5 : IntKind.i64.wrap (v.a5 + y.f1) = v.a5 + y.f1 := w64 (by rw [e5]; omega)
    have wa6 : IntKind.i64.wrap (v.a6 + y.f1) = v.a6 + y.f1 := w64 (by rw [e6]; omega)
    have wa7 : IntKind.i64.wrap (v.a7 + 1) = v.a7 + 1 := w64 (by omega)
    unfold gR4_4v1
    simp only [get_br, get_opt, get_leaf, get_fail, hl, p7, decide_true, Bool.and_self, cond_true, g4, hy', hz', Option.bind_some, e8, wd, wp1, ws, wc, wp2, wq1, wq2, wa5, wa6, wa7]
    have hgv : gv y = (if y.f2 = 1 then y.f1 else 0) := rfl
    have hav : av y = (if y.f2 = 3 then 0 else y.f1) := rfl
    have nx : v.a7 + 1 = ((i + (k + 1) : Nat) : Int) := by omega
    by_cases c1 : y.f2 = 1
    · have b1 : (y.f2 == 1) = true := by simp [c1]
      have b3 : (y.f2 != 3) = true := by simp [c1]
      rw [if_pos c1] at hgv
      rw [if_neg (by omega)] at hav
      have : (bif decide (v.a5 + y.f1 > C.f1 + C.f0 * (y.f0 - z.f0)) then true else decide (v.a6 + y.f1 > C.f1 + C.f3 + (C.f0 + C.f2) * (y.f0 - z.f0))) = false := by
        have t1 : ¬ v.a5 + y.f1 > C.f1 + C.f0 * (y.f0 - z.f0) := by omega
        have t2 : ¬ v.a6 + y.f1 > C.f1 + C.f3 + (C.f0 + C.f2) * (y.f0 - z.f0) := by omega
        simp [t1, t2]
      simp only [b1, b3, cond_true, this, cond_false]
      refine ⟨_, rfl, ?_⟩
      refine ⟨e4, rfl, e10, by omega, nx, ?_, ?_⟩
      · show _ = pg D (i + k + 1) - pg D i
        rw [hps.1]; dsimp only; omega
      · show _ = pa D (i + k + 1) - pa D i
        rw [hps.2]; dsimp only; omega
    · have b1 : (y.f2 == 1) = false := by simp [c1]
      rw [if_neg c1] at hgv
      by_cases c3 : y.f2 = 3
      · have b3 : (y.f2 != 3) = false := by simp [c3]
        rw [if_pos c3] at hav
        have : (bif decide (v.a5 > C.f1 + C.f0 * (y.f0 - z.f0)) then true else decide (v.a6 > C.f1 + C.f3 + (C.f0 + C.f2) * (y.f0 - z.f0))) = false := by
          have t1 : ¬ v.a5 > C.f1 + C.f0 * (y.f0 - z.f0) := by omega
          have t2 : ¬ v.a6 > C.f1 + C.f3 + (C.f0 + C.f2) * (y.f0 - z.f0) := by omega
          simp [t1, t2]
        simp only [b1, b3, this, cond_false]
        refine ⟨_, rfl, ?_⟩
        refine ⟨e4, rfl, e10, by omega, nx, ?_, ?_⟩
        · show _ = pg D (i + k + 1) - pg D i
          rw [hps.1]; dsimp only; omega
        · show _ = pa D (i + k + 1) - pa D i
          rw [hps.2]; dsimp only; omega
      · have b3 : (y.f2 != 3) = true := by simp [c3]
        rw [if_neg c3] at hav
        have : (bif decide (v.a5 > C.f1 + C.f0 * (y.f0 - z.f0)) then true else decide (v.a6 + y.f1 > C.f1 + C.f3 + (C.f0 + C.f2) * (y.f0 - z.f0))) = false := by
          have t1 : ¬ v.a5 > C.f1 + C.f0 * (y.f0 - z.f0) := by omega
          have t2 : ¬ v.a6 + y.f1 > C.f1 + C.f3 + (C.f0 + C.f2) * (y.f0 - z.f0) := by omega
          simp [t1, t2]
        simp only [b1, b3, cond_true, this, cond_false]
        refine ⟨_, rfl, ?_⟩
        refine ⟨e4, rfl, e10, by omega, nx, ?_, ?_⟩
        · show _ = pg D (i + k + 1) - pg D i
          rw [hps.1]; dsimp only; omega
        · show _ = pa D (i + k + 1) - pa D i
          rw [hps.2]; dsimp only; omega
  · right
    unfold gR4_4v1
    simp only [get_br, get_leaf, hl, decide_false, cond_false]
    exact ⟨v, rfl, e4, e8, e10⟩

theorem loopC (C : S7) (hC : okS C) (D : List S2) (hD : D.length ≤ 40) (m : S3) (t : Int) (ht : t ≤ 320) (j : J C D m t) (v : W4_2v1) (e4 : v.a4 = 0) (e5 : v.a5 = C) (e7 : v.a7 = D) :
    ∃ w, iter2 gR4_2v1 1000000 v = some (.inl w) := by
  have := iter2_inv (R := gR4_2v1) (fun k v => v.a4 = (k : Int) ∧ k ≤ D.length ∧ v.a5 = C ∧ v.a7 = D) (fun w => True) 40 (fun k v h => by omega)
    (fun k v ⟨e4, hk, e5, e7⟩ => ?_) 1000000 0 v ⟨by simpa using e4, by omega, e5, e7⟩ (by omega)
  · obtain ⟨w, hw, _⟩ := this; exact ⟨w, hw⟩
  by_cases hl : v.a4 < (v.a7.length : Int)
  · left
    have hlen : k < D.length := by rw [e4, e7] at hl; omega
    unfold gR4_2v1
    obtain ⟨w, hw, w4, w8, w10⟩ := loopB C hC D hD m t ht j k hlen ⟨v.a0, v.a1, v.a2, v.a3, v.a4, 0, 0, v.a4, v.a5, v.a6, v.a7⟩ e4 rfl rfl e4 e5 e7
    simp only [get_br, get_opt, get_leaf, get_fail, hl, decide_true, cond_true, hw, Option.bind_some, Sum.isRight_inl, cond_false, Sum.getLeft?_inl]
    refine ⟨_, rfl, ?_, by omega, w8, w10⟩
    simp only [w4]
    rw [w64 (by omega)]; omega
  · right
    unfold gR4_2v1
    simp only [get_br, get_leaf, hl, decide_false, cond_false]
    exact ⟨v, rfl, trivial⟩

theorem small_rg (n : Int) (q : Int) (hq : 0 < q ∧ q ≤ 5000) : 0 ≤ IntKind.i64.wrap (remI (IntKind.u64.wrap n) q) ∧ IntKind.i64.wrap (remI (IntKind.u64.wrap n) q) < q := by
  rw [wr_u64, remI_eq _ (by omega)]
  have h1 := Int.emod_nonneg (n % 18446744073709551616) (show q ≠ 0 by omega)
  have h2 := Int.emod_lt_of_pos (n % 18446744073709551616) hq.1
  rw [w64 (by omega)]
  exact ⟨h1, h2⟩

theorem small_ok (x : S7) : okS (g7 x) := by
  unfold g7 g7T
  simp only [Tr.get]
  exact ⟨small_rg _ _ (by omega), small_rg _ _ (by omega), small_rg _ _ (by omega), small_rg _ _ (by omega)⟩

theorem law4 (x : S7) (l : List S1) : g4 x l = some true := by
  unfold g4 g4T
  have hC := small_ok x
  generalize g7 x = C at hC
  have hok : okC C := by
    obtain ⟨o0, o1, o2, o3⟩ := hC
    exact ⟨by omega, by omega, by omega, by omega⟩
  obtain ⟨w, hw, w4, wl, t, ht, jj⟩ := loopA C hC ⟨l, false, 0, 0, C, ⟨C.f0, C.f1, C.f2, C.f3, C.f4, C.f5, C.f1, C.f3, 0, true⟩, []⟩ rfl rfl rfl rfl (new_cf hok) ⟨rfl, rfl, rfl, rfl⟩ rfl
  obtain ⟨w', hw'⟩ := loopC C hC w.a6 wl w.a5 t ht jj ⟨w.a0, w.a1, w.a2, w.a3, 0, w.a4, w.a5, w.a6⟩ rfl w4 rfl
  simp only [g13_eq, hok, if_true, get_br, awake, get_optS, get_opt, get_leaf, hw, Option.bind_some, hw', Sum.isRight_inl, cond_false, Sum.getLeft?_inl]
  rfl

end Ab31
