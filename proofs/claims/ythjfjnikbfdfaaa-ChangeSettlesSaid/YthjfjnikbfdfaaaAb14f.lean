/- Seat 14: the last plain laws. -/
import Derived.Test.YthjfjnikbfdfaaaAb14e
set_option maxRecDepth 100000
set_option maxHeartbeats 1000000
set_option linter.unusedVariables false
set_option linter.unusedSimpArgs false
namespace Ab14
open Go Ab

theorem nq6 (x : S5) (p : S0) : (nq x p).f6 = p.f6 := by unfold nq nwp; split <;> (try split) <;> rfl
theorem nq7 (x : S5) (p : S0) : (nq x p).f7 = p.f7 := by unfold nq nwp; split <;> (try split) <;> rfl
theorem nq9 (x : S5) (p : S0) : (nq x p).f9 = p.f9 := by unfold nq nwp; split <;> (try split) <;> rfl
theorem nq10 (x : S5) (p : S0) : (nq x p).f10 = p.f10 := by unfold nq nwp; split <;> (try split) <;> rfl
theorem nq17 (x : S5) (p : S0) : (nq x p).f17 = p.f17 := by unfold nq nwp; split <;> (try split) <;> rfl
theorem nq18 (x : S5) (p : S0) : (nq x p).f18 = p.f18 := by unfold nq nwp; split <;> (try split) <;> rfl
theorem nq19 (x : S5) (p : S0) : (nq x p).f19 = p.f19 := by unfold nq nwp; split <;> (try split) <;> rfl
theorem nq27 (x : S5) (p : S0) : (nq x p).f27 = p.f27 := by unfold nq nwp; split <;> (try split) <;> rfl
theorem nq30 (x : S5) (p : S0) : (nq x p).f30 = p.f30 := by unfold nq nwp; split <;> (try split) <;> rfl
theorem nq74 (x : S5) (p : S0) : (nq x p).f74 = p.f74 := by unfold nq nwp; split <;> (try split) <;> rfl

/-- Where nothing came. -/
theorem quiet_step {x : S5} {p q : S0} (hc : came p = false) (h : Step x p q) : came q = false ∧ q.f30 = p.f30 ∧ q.f7 = p.f7 ∧ q.f9 = p.f9 ∧ q.f10 = p.f10 ∧
    ((p.f74 = 1 ∧ p.f9 = true ∧ p.f6 = false ∧ q.f74 = 2) ∨ (p.f74 = 2 ∧ plc p = true ∧ q.f74 = 3) ∨ (p.f74 = 2 ∧ plc p = false ∧ p.f9 = false ∧ q.f74 = 1) ∨ (p.f74 = 3 ∧ plc p = false ∧ q.f74 = 2) ∨ (p.f74 ≠ 1 ∧ p.f74 ≠ 2 ∧ p.f74 ≠ 3 ∧ q.f74 = 1 ∧ q.f6 = true)) := by
  have hc' := hc
  simp only [came, Bool.or_eq_false_iff] at hc'
  obtain ⟨⟨⟨c17, c19⟩, c18⟩, c27⟩ := hc'
  rcases h with ⟨h1, h2, h3, rfl⟩ | ⟨h1, h2, h3, rfl⟩ | ⟨h1, h2, h3, h4, h5, rfl⟩ | ⟨h1, h2, rfl⟩ | ⟨h1, h2, rfl⟩ | ⟨h1, h2, h3, rfl⟩ | ⟨h1, h2, h3, rfl⟩ | ⟨h1, h2, h3, h4, h5, rfl⟩ | ⟨h1, h2, h3, h4, h5, h6, rfl⟩ | ⟨h1, h2, h3, rfl⟩
  · exact ⟨rfl, rfl, rfl, rfl, rfl, .inl ⟨h1, h2, h3, rfl⟩⟩
  · refine ⟨?_, nq30 x p, nq7 x p, nq9 x p, nq10 x p, .inr (.inl ⟨h1, h2, rfl⟩)⟩
    show ((nq x p).f17 || (nq x p).f19 || (nq x p).f18 || (nq x p).f27) = false
    rw [nq17, nq18, nq19, nq27, c17, c18, c19, c27]; rfl
  · exact ⟨hc, rfl, rfl, rfl, rfl, .inr (.inr (.inl ⟨h1, h2, h3, rfl⟩))⟩
  · rw [hc] at h2; cases h2
  · exact ⟨rfl, rfl, rfl, rfl, rfl, .inr (.inr (.inr (.inl ⟨h1, h2, rfl⟩)))⟩
  · rw [c19] at h3; cases h3
  · rw [c17] at h3; cases h3
  · rw [c27] at h5; cases h5
  · rw [c18] at h6; cases h6
  · exact ⟨hc, rfl, rfl, rfl, rfl, .inr (.inr (.inr (.inr ⟨h1, h2, h3, rfl, rfl⟩)))⟩

theorem plc_eq {p q : S0} (h : q.f30 = p.f30) : plc q = plc p := by unfold plc; rw [h]

theorem law6 {x : S5} {i : Int} (hi : 0 ≤ i ∧ i ≤ 255) : g6 x i = some true := by
  obtain ⟨y, hy, hl⟩ := few_ok x
  have hl : y.f16.length ≤ 1000 := by omega
  by_cases h0 : (y.f16.length : Int) = 0
  · simp only [g6, g6T, hy, get_optS, get_br, h0, beq_self_eq_true, cond_true, awake_true, get_leaf]
  obtain ⟨k, p, e, hk, hp⟩ := few_k h0 hi
  have hne : y.f16.isEmpty = false := by
    cases hh : y.f16 with
    | nil => rw [hh] at hk; simp at hk
    | cons _ _ => rfl
  have d0 : decide ((0 : Int) ≤ (k : Int)) = true := decide_eq_true (by omega)
  have d1 : decide ((k : Int) < (y.f16.length : Int)) = true := decide_eq_true (by omega)
  simp only [g6, g6T, hy, get_optS, get_br, beq_eq_false_iff_ne.mpr h0, cond_false, hne, Nat.zero_add, room_small (show 248 ≤ 1000000 by omega) hl, cond_true, e, d0, d1, Bool.and_self, Int.toNat_natCast, hp, upd_eta]
  generalize hr : ({ p with f17 := false, f18 := false, f19 := false, f27 := false } : S0) = r
  have hc : came r = false := by subst hr; rfl
  have hk0 : k < (upd y k r).f16.length := by rw [upd_len]; exact hk
  have hl0 : (upd y k r).f16.length ≤ 1000 := by rw [upd_len]; exact hl
  have hg0 := upd_get r hk
  obtain ⟨y1, q1, ok1, e1, n1, g1, s1⟩ := tcm_step hk0 hg0
  rw [g17_eq hk0 hg0 hl0, e1]
  simp only [get_optS, get_br]
  rcases s1 with ⟨rfl, _, _⟩ | ⟨rfl, s1⟩
  · simp only [Bool.not_false, cond_true, awake_true, get_optS, get_leaf]
  obtain ⟨c1, a1, b1, d1', f1, t1⟩ := quiet_step hc s1
  have hk1 : k < y1.f16.length := by rw [n1.2.1]; exact hk0
  have hl1 : y1.f16.length ≤ 1000 := by rw [n1.2.1]; exact hl0
  obtain ⟨y2, q2, ok2, e2, n2, g2, s2⟩ := tcm_step hk1 g1
  simp only [g17_eq hk1 g1 hl1, e2, get_optS, get_br, Bool.not_true, cond_false]
  rcases s2 with ⟨rfl, _, _⟩ | ⟨rfl, s2⟩
  · simp only [Bool.not_false, cond_true, awake_true, get_optS, get_leaf]
  obtain ⟨c2, a2, b2, d2', f2, t2⟩ := quiet_step c1 s2
  have hk2 : k < y2.f16.length := by rw [n2.2.1]; exact hk1
  have hl2 : y2.f16.length ≤ 1000 := by rw [n2.2.1]; exact hl1
  obtain ⟨y3, q3, ok3, e3, n3, g3, s3⟩ := tcm_step hk2 g2
  simp only [g17_eq hk2 g2 hl2, e3, get_optS, get_br, Bool.not_true, cond_false]
  rcases s3 with ⟨rfl, _, _⟩ | ⟨rfl, s3⟩
  · simp only [Bool.not_false, cond_true, awake_true, get_optS, get_leaf]
  obtain ⟨c3, a3, b3, d3', f3, t3⟩ := quiet_step c2 s3
  exfalso
  rw [plc_eq a1] at t2
  rw [plc_eq a2, plc_eq a1] at t3
  rcases t1 with ⟨u1, u2, u3, u4⟩ | ⟨u1, u2, u3⟩ | ⟨u1, u2, u3, u4⟩ | ⟨u1, u2, u3⟩ | ⟨u1, u2, u3, u4, u5⟩ <;>
    rcases t2 with ⟨v1, v2, v3, v4⟩ | ⟨v1, v2, v3⟩ | ⟨v1, v2, v3, v4⟩ | ⟨v1, v2, v3⟩ | ⟨v1, v2, v3, v4, v5⟩ <;>
    first
    | (omega)
    | (simp_all; done)
    | (rcases t3 with ⟨w1, w2, w3, w4⟩ | ⟨w1, w2, w3⟩ | ⟨w1, w2, w3, w4⟩ | ⟨w1, w2, w3⟩ | ⟨w1, w2, w3, w4, w5⟩ <;> first | omega | (simp_all; done))

theorem law7 {x : S5} {i : Int} (hi : 0 ≤ i ∧ i ≤ 255) : g7 x i = some true := by
  obtain ⟨y, hy, hl⟩ := few_ok x
  have hl : y.f16.length ≤ 1000 := by omega
  by_cases h0 : (y.f16.length : Int) = 0
  · simp only [g7, g7T, hy, get_optS, get_br, h0, beq_self_eq_true, cond_true, awake_true, get_leaf]
  obtain ⟨k, p, e, hk, hp⟩ := few_k h0 hi
  obtain ⟨z, q, ok, e1, n1, g1, s1⟩ := tcm_step hk hp
  have d0 : decide ((0 : Int) ≤ (k : Int)) = true := decide_eq_true (by omega)
  simp only [g7, g7T, hy, get_optS, get_br, beq_eq_false_iff_ne.mpr h0, cond_false, e, d0, cond_true, Int.toNat_natCast, hp, g17_eq hk hp hl, e1, n1.2.1, bne_self_eq_false, g1, awake_true, get_leaf, or_cond, and_cond]
  suffices h : (q.f6 == (p.f6 || (ok && p.f74 == 3 && p.f27 && !q.f27 && q.f74 == 3 && !p.f17 && !p.f19) || (ok && q.f74 == 1))) = true by rw [h]; rfl
  rcases s1 with ⟨rfl, rfl, _⟩ | ⟨rfl, s1⟩
  · simp
  rcases s1 with ⟨h1, h2, h3, rfl⟩ | ⟨h1, h2, h3, rfl⟩ | ⟨h1, h2, h3, h4, h5, rfl⟩ | ⟨h1, h2, rfl⟩ | ⟨h1, h2, rfl⟩ | ⟨h1, h2, h3, rfl⟩ | ⟨h1, h2, h3, rfl⟩ | ⟨h1, h2, h3, h4, h5, rfl⟩ | ⟨h1, h2, h3, h4, h5, h6, rfl⟩ | ⟨h1, h2, h3, rfl⟩
  · simp [lrn, h1]
  · simp [nq6, h1]
  · simp [qui]
  · simp [lrn, h1]
  · simp [lrn, h1]
  · simp [nq6, nq74, h1, h3]
  · simp [h1, h3]
  · simp [nq74, h1, h3, h4, h5]
  · simp [h1, h3, h4, h5]
  · simp [qui]

theorem loop5 {L M : List S0} {i : Int} (hlen : M.length = L.length) (hl : L.length ≤ 1000) (hn : ∀ (j : Nat) p, (j : Int) ≠ i → L[j]? = some p → M[j]? = some p ∨ M[j]? = some { p with f27 := true })
    (v : W5_0v1) (h0 : v.a0 = i) (h2 : v.a2 = 0) (h19 : v.a19 = L) (h36 : v.a36 = M) : iter gR5_0v1 1000000 v = some (false, { v with a2 := (L.length : Int), a36 := L }) := by
  have hM : M.mapIdx (fun q p => (L[q]?).getD p) = L := by
    apply List.ext_getElem?
    intro q
    rw [List.getElem?_mapIdx]
    rcases Nat.lt_or_ge q L.length with hq | hq
    · rw [List.getElem?_eq_getElem (show q < M.length by omega), List.getElem?_eq_getElem hq]; simp
    · rw [List.getElem?_eq_none (show M.length ≤ q by omega), List.getElem?_eq_none hq]; rfl
  refine iter_all (fun j => { v with a2 := (j : Int), a36 := mapT (fun q p => (L[q]?).getD p) j M }) L.length (fun j hj => ?_) (o := (false, { v with a2 := (L.length : Int), a36 := L })) (n := 1000000) ?_ (by omega) ?_
  · have hp : L[j]? = some L[j] := List.getElem?_eq_getElem hj
    have hjm : j < M.length := by omega
    have hm : M[j]? = some M[j] := List.getElem?_eq_getElem hjm
    have step := mapT_step (fun q (p : S0) => (L[q]?).getD p) hm
    simp only [hp, Option.getD_some] at step
    simp only [gR5_0v1, get_br, h0, h19, mapT_len, decide_eq_true (show (j : Int) < (M.length : Int) by omega), decide_eq_true (show (0 : Int) ≤ (j : Int) by omega), cond_true, Bool.and_self, Int.toNat_natCast, mapT_at _ hm, hp, get_optS, get_leaf, i64_nat (j := j) (by omega)]
    by_cases hji : (j : Int) = i
    · simp only [hji, beq_self_eq_true, cond_true, step]
    · simp only [beq_eq_false_iff_ne.mpr hji, cond_false]
      have back : ({ M[j] with f27 := L[j].f27 } : S0) = L[j] ∧ (L[j].f27 = true → M[j].f27 = true) := by
        rcases hn j L[j] hji hp with h | h
        · rw [hm] at h; simp only [Option.some.injEq] at h; rw [h]; exact ⟨rfl, fun h => h⟩
        · rw [hm] at h; simp only [Option.some.injEq] at h; rw [h]; exact ⟨rfl, fun _ => rfl⟩
      rw [back.1, step]
      cases h27 : L[j].f27
      · simp only [cond_false]
      · simp only [back.2 h27, Bool.not_true, cond_false, cond_true]
  · rw [← hlen, mapT_all, hM, hlen]
    simp only [gR5_0v1, get_br, Int.lt_irrefl, decide_false, cond_false, get_leaf]
  · cases v; simp at h2 h36; simp [h2, h36, mapT_zero]

theorem loop50 (v : W5_0) (h2 : v.a2 = 0) : iter gR5_0 1000000 v = some (false, v) := by
  unfold iter
  simp only [gR5_0, get_br, h2, Int.lt_irrefl, decide_false, cond_false, get_leaf]

theorem law5 (x : S5) (i : Int) : g5 x i = some true := by
  obtain ⟨y, hy, hl⟩ := few_ok x
  have hl : y.f16.length ≤ 1000 := by omega
  obtain ⟨z, ok, e1, hz, hzl, hn⟩ : ∃ z ok, g17 y i = some (z, ok) ∧ z = { y with f16 := z.f16 } ∧ z.f16.length = y.f16.length ∧ ∀ (j : Nat) p, (j : Int) ≠ i → y.f16[j]? = some p → z.f16[j]? = some p ∨ z.f16[j]? = some { p with f27 := true } := by
    by_cases h : isP y i
    · obtain ⟨k, p, rfl, hk, hp⟩ := isP_get h
      obtain ⟨z, q, ok, e1, n1, _, _⟩ := tcm_step hk hp
      exact ⟨z, ok, by rw [g17_eq hk hp hl, e1], n1.1, n1.2.1, fun j p hj hp => n1.2.2 j p (by omega) hp⟩
    · exact ⟨y, false, g17_no h, rfl, rfl, fun j p _ hp => .inl hp⟩
  have hy2 : ∀ L : List S0, L = y.f16 → ({ z with f16 := L } : S5) = y := by
    intro L hL; rw [hz, hL]
  have s1 : g11 y y = some true := same_self y hl
  simp only [g5, g5T, hy, get_optS, e1, get_br, hzl, bne_self_eq_false, cond_false]
  cases hne : z.f16.isEmpty with
  | true =>
    have hz0 : z.f16 = [] := by simpa using hne
    have hy0 : y.f16 = [] := by
      have := hzl; rw [hz0] at this; simpa using this.symm
    have e2 := hy2 [] hy0.symm
    simp only [cond_true]
    rw [loop50 _ rfl]
    simp only [get_optS, get_br, cond_false]
    rw [show (S5.mk z.f0 z.f1 z.f2 z.f3 z.f4 z.f5 z.f6 z.f7 z.f8 z.f9 z.f10 z.f11 z.f12 z.f13 z.f14 z.f15 []) = y from e2]
    simp only [s1, get_optS, get_br, cond_true, awake_true, get_leaf]
  | false =>
    have e2 := hy2 y.f16 rfl
    simp only [cond_false, Nat.zero_add, room_small (show 248 ≤ 1000000 by omega) hl, cond_true]
    rw [loop5 hzl hl hn _ rfl rfl rfl rfl]
    simp only [get_optS, get_br, cond_false]
    rw [show (S5.mk z.f0 z.f1 z.f2 z.f3 z.f4 z.f5 z.f6 z.f7 z.f8 z.f9 z.f10 z.f11 z.f12 z.f13 z.f14 z.f15 y.f16) = y from e2]
    simp only [s1, get_optS, get_br, cond_true, awake_true, get_leaf]

end Ab14
