/- Seat 12: the plain laws, fourth part. -/
import Derived.Test.YtmpfabbaoendeaaAb12e
set_option maxRecDepth 100000
set_option maxHeartbeats 1000000
set_option linter.unusedVariables false
set_option linter.unusedSimpArgs false
namespace Ab12
open Go Ab

theorem wan31 (id : Int) (p : S0) (b : Bool) : (wan id p b).f31 = 3 ↔ p.f29 = 3 ∧ b = true := by
  unfold wan
  by_cases a1 : p.f29 = 1
  · rw [if_pos a1]; simp [a1]
  by_cases a2 : p.f29 = 2
  · rw [if_neg a1, if_pos a2]; simp [a2]
  by_cases a3 : p.f29 = 3
  · rw [if_neg a1, if_neg a2, if_pos a3]
    cases b
    · simp only [Bool.false_eq_true, if_false]
      repeat' split
      all_goals simp
    · simp [a3]
  · rw [if_neg a1, if_neg a2, if_neg a3]; simp [a3]

theorem law5 {x : S5} (ho : Tok x) : g5 x = some true := by
  obtain ⟨y, hy, hl, ht⟩ := few_ok x
  have ho := ht ho
  obtain ⟨s, hs, hb, hv⟩ := rt_root ho
  simp only [g5, g5T, hy, get_optS, g15_eq ho (by omega)]
  unfold sel
  rw [hs]
  simp only
  have key : ∀ v : W5_0, v.a1 = 0 → v.a2 = 0 → v.a27 = selP y s.2 → v.a36 = y.f16.mapIdx (wq y s.1 (selT y s.2) s.2) → iter gR5_0 1000000 v = some (false, { v with a1 := (if s.2 = -1 then 0 else 1), a2 := (y.f16.length : Int) }) := by
    intro v h1 h2 h27 h36
    refine iter_all (fun j => { v with a1 := (if 0 ≤ s.2 ∧ s.2 < (j : Int) then 1 else 0), a2 := (j : Int) }) y.f16.length (fun j hj => ?_) (o := (false, { v with a1 := (if s.2 = -1 then 0 else 1), a2 := (y.f16.length : Int) })) (n := 1000000) ?_ (by omega) ?_
    · have hp : y.f16[j]? = some y.f16[j] := List.getElem?_eq_getElem hj
      have hq : (y.f16.mapIdx (wq y s.1 (selT y s.2) s.2))[j]? = some (wq y s.1 (selT y s.2) s.2 j y.f16[j]) := by rw [List.getElem?_mapIdx, hp]; rfl
      have hlen : (y.f16.mapIdx (wq y s.1 (selT y s.2) s.2)).length = y.f16.length := by simp
      simp only [gR5_0, h36, hlen, get_br, decide_eq_true (show (j : Int) < (y.f16.length : Int) by omega), decide_eq_true (show (0 : Int) ≤ (j : Int) by omega), cond_true, Int.toNat_natCast, hq, get_optS, get_leaf, i64_nat (j := j) (by omega)]
      have c31 := wan31 y.f0 (dq y s.1 (selT y s.2) y.f16[j]) ((j : Int) == s.2)
      have c0 := wan0 y.f0 (dq y s.1 (selT y s.2) y.f16[j]) ((j : Int) == s.2)
      change (wq y s.1 (selT y s.2) s.2 j y.f16[j]).f31 = 3 ↔ y.f16[j].f29 = 3 ∧ ((j : Int) == s.2) = true at c31
      change (wq y s.1 (selT y s.2) s.2 j y.f16[j]).f0 = y.f16[j].f0 at c0
      rw [c0]
      rw [beq_iff_eq] at c31
      by_cases hk : (j : Int) = s.2
      · have h29 : y.f16[j].f29 = 3 := by
          rcases hb.at_ with ⟨h, _⟩ | ⟨k, q, h3, h4, h5, h6, _⟩
          · omega
          · have : j = k := by omega
            subst this
            rw [hp] at h5; simp only [Option.some.injEq] at h5; subst h5
            unfold cand at h6
            split at h6
            · next h => exact h.1
            · cases h6
        have hP : selP y s.2 = y.f16[j].f0 := by
          unfold selP; rw [← hk, Int.toNat_natCast, hp]; simp only; rw [if_pos (by omega)]
        have n0 : (y.f16[j].f0 != v.a27) = false := by rw [h27, hP]; simp
        rw [beq_iff_eq.mpr (c31.mpr ⟨h29, hk⟩), n0, if_neg (by omega), if_pos (by omega)]
        simp only [cond_true, cond_false]
        rw [show IntKind.i64.wrap (0 + 1) = 1 by decide]
      · rw [beq_eq_false_iff_ne.mpr (fun h => hk (c31.mp h).2)]
        simp only [cond_false]
        have : (0 ≤ s.2 ∧ s.2 < (j : Int)) ↔ (0 ≤ s.2 ∧ s.2 < ((j + 1 : Nat) : Int)) := by omega
        simp only [this]
    · have hlen : (y.f16.mapIdx (wq y s.1 (selT y s.2) s.2)).length = y.f16.length := by simp
      simp only [gR5_0, h36, hlen, get_br, Int.lt_irrefl, decide_false, cond_false, get_leaf]
      have : (0 ≤ s.2 ∧ s.2 < (y.f16.length : Int)) ↔ ¬ s.2 = -1 := by
        rcases hb.at_ with ⟨h, _⟩ | ⟨k, q, h3, h4, _⟩ <;> omega
      simp only [this, ite_not]
    · rw [if_neg (by omega)]
      cases v; simp at h1 h2; simp [h1, h2]
  rw [get_opt, key _ rfl rfl rfl rfl]
  simp only [Option.bind_some, get_br, cond_false]
  have hg : g17 y.f0 = Ab12.own y.f0 := rfl
  rw [hg, show (S4.mk s.1.f0 s.1.f1 s.1.f2 s.1.f3) = s.1 from rfl]
  rcases hb.at_ with ⟨h, h'⟩ | ⟨k, q, h3, h4, h5, h6, h7⟩
  · rw [if_pos h, h', eqS4_self]
    simp only [awake_true, get_optS, get_leaf]
    rfl
  · rw [if_neg (by omega)]
    have : eqS4 s.1 (Ab12.own y.f0) = false := by
      cases he : eqS4 s.1 (Ab12.own y.f0)
      · rfl
      · have he := eqS4_iff.mp he
        rw [he, lt4_irr] at h7; cases h7
    rw [this]
    simp only [awake_true, get_optS, get_leaf]
    rfl

theorem lt4_asym {a b : S4} (h : lt4 a b = true) : lt4 b a = false := by
  simp only [lt4, decide_eq_true_eq, decide_eq_false_iff_not] at *; omega
/-- Whether the best was seen among the first. -/
def sn (L : List S0) (id : Int) (t : S4) : Nat → Bool
  | 0 => eqS4 t (Ab12.own id)
  | j + 1 => match L[j]? with
    | none => sn L id t j
    | some p => match cand id p with
      | none => sn L id t j
      | some v => bif sn L id t j then true else eqS4 v t
theorem sn_mono {L : List S0} {id : Int} {t : S4} {i : Nat} (h : sn L id t i = true) : ∀ j, i ≤ j → sn L id t j = true
  | 0, hj => by rw [Nat.le_zero.mp hj] at h; exact h
  | j + 1, hj => by
    rcases Nat.lt_or_ge j i with c | c
    · rw [show i = j + 1 by omega] at h; exact h
    · have := sn_mono h j c
      unfold sn
      split
      · exact this
      · split
        · exact this
        · rw [this]; rfl

theorem law6 {x : S5} (ho : Tok x) : g6 x = some true := by
  obtain ⟨y, hy, hl, ht⟩ := few_ok x
  have ho := ht ho
  obtain ⟨s, hs, hb, hv⟩ := rt_root ho
  have hg : g17 y.f0 = Ab12.own y.f0 := rfl
  simp only [g6, g6T, hy, get_optS, g15_eq ho (by omega), g18_eq, hg]
  unfold sel
  rw [hs]
  simp only
  rw [show (S4.mk s.1.f0 s.1.f1 s.1.f2 s.1.f3) = s.1 from rfl]
  have key : ∀ v : W6_0, v.a1 = eqS4 s.1 (Ab12.own y.f0) → v.a2 = 0 → v.a3 = y.f0 → v.a19 = y.f16 → v.a28 = s.1.f0 → v.a29 = s.1.f1 → v.a30 = s.1.f2 → v.a31 = s.1.f3 → iter gR6_0 1000000 v = some (false, { v with a1 := sn y.f16 y.f0 s.1 y.f16.length, a2 := (y.f16.length : Int) }) := by
    intro v h1 h2 h3 h19 h28 h29 h30 h31
    refine iter_all (fun j => { v with a1 := sn y.f16 y.f0 s.1 j, a2 := (j : Int) }) y.f16.length (fun j hj => ?_) (o := (false, { v with a1 := sn y.f16 y.f0 s.1 y.f16.length, a2 := (y.f16.length : Int) })) (n := 1000000) ?_ (by omega) ?_
    · have hp : y.f16[j]? = some y.f16[j] := List.getElem?_eq_getElem hj
      have hpo := ho.2 y.f16[j] (List.getElem_mem hj)
      have hgg : ∀ M : List S0, M = y.f16 → g19 (S5.mk v.a3 v.a4 v.a5 v.a6 v.a7 v.a8 v.a9 v.a10 v.a11 v.a12 v.a13 v.a14 v.a15 v.a16 v.a17 v.a18 M) (j : Int) = some (match cand y.f0 y.f16[j] with | none => (S4.mk 0 0 0 0, false) | some v => (v, true)) := by
        intro M hM; exact g19_eq h3 ho.1 (by show M[j]? = _; rw [hM]; exact hp) hpo
      have e4 : S4.mk v.a28 v.a29 v.a30 v.a31 = s.1 := by rw [h28, h29, h30, h31]
      have es : sn y.f16 y.f0 s.1 (j + 1) = match cand y.f0 y.f16[j] with
          | none => sn y.f16 y.f0 s.1 j
          | some v => bif sn y.f16 y.f0 s.1 j then true else eqS4 v s.1 := by
        show (match y.f16[j]? with | none => _ | some p => _) = _
        rw [hp]
      rw [es]
      simp only [gR6_0, h19, get_br, hgg y.f16 rfl, e4, decide_eq_true (show (j : Int) < (y.f16.length : Int) by omega), cond_true, get_optS, get_leaf, i64_nat (j := j) (by omega), g18_eq]
      cases hc : cand y.f0 y.f16[j] with
      | none => rfl
      | some u =>
        simp only [Bool.not_true, cond_false, hb.le j _ u hj hp hc]
    · simp only [gR6_0, h19, get_br, Int.lt_irrefl, decide_false, cond_false, get_leaf]
    · cases v; simp at h1 h2; simp [h1, h2, sn]
  have hlt : lt4 (Ab12.own y.f0) s.1 = false := by
    rcases hb.at_ with ⟨_, h'⟩ | ⟨k, q, _, _, _, _, h7⟩
    · rw [h', lt4_irr]
    · exact lt4_asym h7
  have hsn : sn y.f16 y.f0 s.1 y.f16.length = true := by
    rcases hb.at_ with ⟨_, h'⟩ | ⟨k, q, _, h4, h5, h6, h7⟩
    · exact sn_mono (i := 0) (by unfold sn; rw [h', eqS4_self]) _ (Nat.zero_le _)
    · refine sn_mono (i := k + 1) ?_ _ (by omega)
      unfold sn; rw [h5]; simp only; rw [h6]; simp only; rw [eqS4_self]; cases sn y.f16 y.f0 s.1 k <;> rfl
  have hlen : ((y.f16.mapIdx (wq y s.1 (selT y s.2) s.2)).length : Int) = y.f16.length := by simp
  rw [hlt, hlen]
  simp only [cond_false, bne_self_eq_false, get_br]
  rw [get_opt, key _ rfl rfl rfl rfl rfl rfl rfl rfl]
  simp only [Option.bind_some, get_br, cond_false, hsn, cond_true, awake_true, get_optS, get_leaf]

end Ab12
