/- Seat 13: the plain laws, second part: the step. -/
import Derived.Test.YtinfcoabfdegcaaAb13c
set_option maxRecDepth 100000
set_option maxHeartbeats 1000000
set_option linter.unusedVariables false
set_option linter.unusedSimpArgs false
namespace Ab13
open Go Ab

theorem step_eq {x : S6} {n : Int} (hl : x.f16.length ≤ 1000) : g9 x n = g10 x n := by
  by_cases h : In x n
  · obtain ⟨p, hp, _⟩ := h.at
    have c0 : (bif decide (n < 0) then true else decide (n ≥ (x.f16.length : Int))) = false := by
      rw [decide_eq_false (show ¬ n < 0 by have := h.1; omega), decide_eq_false (show ¬ n ≥ (x.f16.length : Int) by have := h.2; omega)]; rfl
    have hcl := clone_small (c := 0) x.f16 (show 248 ≤ 1000000 by omega) hl
    have k52 : ∀ q, g52 { x with f16 := x.f16.set n.toNat q } = some (all24 (wth x n q)) := fun q => sync_eq' (x := wth x n q) (by rw [wth_len]; exact hl)
    have a52 : ∀ q, (all24 (wth x n q)).f16[n.toNat]? = some (pt24 0 q) := fun q => by
      show ((wth x n q).f16.mapIdx pt24)[n.toNat]? = _
      rw [List.getElem?_mapIdx, wth_at q h]; rfl
    have l52 : ∀ q, (all24 (wth x n q)).f16.length = x.f16.length := fun q => by
      show ((wth x n q).f16.mapIdx pt24).length = _
      rw [List.length_mapIdx, wth_len]
    have b52 : ∀ q, ((all24 (wth x n q)).f16.isEmpty || cloneB 0 248 (all24 (wth x n q)).f16) = true := fun q => by
      rw [clone_small (c := 0) _ (show 248 ≤ 1000000 by omega) (by rw [l52]; exact hl), Bool.or_true]
    have t52 : ∀ q, List.set (all24 (wth x n q)).f16 n.toNat (pt24 0 q) = (all24 (wth x n q)).f16 := fun q => set_self (a52 q)
    have k42 : g42 { x with f16 := x.f16.set n.toNat p } = some (all20 x) := by
      have : ({ x with f16 := x.f16.set n.toNat p } : S6) = x := by rw [set_self hp]
      rw [this]; exact re_eq' hl
    have a42 : (all20 x).f16[n.toNat]? = some (pt20 0 p) := by
      show (x.f16.mapIdx pt20)[n.toNat]? = _
      rw [List.getElem?_mapIdx, hp]; rfl
    have l42 : (all20 x).f16.length = x.f16.length := by show (x.f16.mapIdx pt20).length = _; simp
    have b42 : ((all20 x).f16.isEmpty || cloneB 0 248 (all20 x).f16) = true := by
      rw [clone_small (c := 0) _ (show 248 ≤ 1000000 by omega) (by rw [l42]; exact hl), Bool.or_true]
    have t42 : List.set (all20 x).f16 n.toNat (pt20 0 p) = (all20 x).f16 := set_self a42
    simp only [g9, g9T, get_br, c0, cond_false, decide_eq_true h.1, decide_eq_true h.2, Bool.and_self, Bool.or_true, hcl, cond_true, hp, get_optS, get_leaf, k52, a52, l52, b52, t52, k42, a42, l42, b42, t42, all_eq' hl, ree_eq' hl]
    have k55 : ∀ q, g55 (wth x n q) = some (all24 (wth x n q)) := fun q => sync_eq (by rw [wth_len]; exact hl)
    have k14 := all_eq (x := x) (n := n) hl
    have k47 := ree_eq (x := x) (n := n) hl
    have k48 := re_eq hl
    have e44 : g44 p = g49 p := rfl
    rw [e44]
    generalize none_ (notSyn n) x.f16 = S at *
    generalize none_ (notRe n) x.f16 = R at *
    have h46 : g46 x n = some (bif (bif p.f12 then (!p.f3) else false) then (all24 (wth x n { p with f12 := false }), true) else (bif (bif (bif S then (!p.f3) else false) then true else (bif p.f12 then p.f3 else false)) then ((bif (p.f73 == 3) then wth x n { p with f3 := true, f11 := true, f12 := false, f24 := false } else wth x n { p with f3 := true, f11 := true, f12 := false }), true) else (x, false))) := by
      simp only [g46, g46T, get_br, decide_eq_true h.1, cond_true, hp, get_optS, with_eq h hl, k55, get_leaf, k14]
      cases (bif p.f12 then (!p.f3) else false)
      · cases (bif (bif S then (!p.f3) else false) then true else (bif p.f12 then p.f3 else false))
        · rfl
        · cases p.f73 == 3 <;> rfl
      · rfl
    simp only [g10, g10T, get_br, h.q, Bool.not_true, cond_false, decide_eq_true h.1, cond_true, hp, get_optS, with_eq h hl, get_leaf]
    cases hc1 : (bif (decide (p.f73 < 1)) then true else (decide (p.f73 > 6)))
    case true => rfl
    simp only [cond_false]
    cases hc2 : (bif (!p.f22) then true else p.f28)
    case true => rfl
    simp only [cond_false]
    cases hc3 : (p.f31 != p.f30)
    case true =>
      simp only [cond_true]
      have : g27 p = bif (p.f31 == 3) then { p with f30 := p.f31, f70 := p.f43, f73 := 3 } else bif (p.f31 == 4) then { p with f30 := p.f31, f73 := 4 } else bif (p.f31 == 0) then { p with f7 := false, f9 := false, f30 := p.f31, f73 := 1 } else { p with f7 := false, f9 := false, f30 := p.f31, f73 := 5 } := by
        simp only [g27, g27T, gett_br, gett_leaf]
      rw [this]
      cases (p.f31 == 3)
      · cases (p.f31 == 4)
        · cases (p.f31 == 0) <;> rfl
        · rfl
      · rfl
    simp only [cond_false]
    by_cases a1 : p.f73 = 1
    · simp only [beq_iff_eq.mpr a1, cond_true]
      cases (bif (!p.f10) then (!p.f8) else false) <;> rfl
    simp only [beq_eq_false_iff_ne.mpr a1, cond_false]
    by_cases a2 : p.f73 = 2
    · simp only [beq_iff_eq.mpr a2, cond_true]
      have : g29 p p.f41 = !(bif (bif (bif (p.f65 == p.f41) then (!p.f24) else false) then (!p.f20) else false) then p.f25 else false) := by
        simp only [g29, g29T, gett_leaf, bne]
        cases (p.f65 == p.f41) <;> cases p.f24 <;> cases p.f20 <;> cases p.f25 <;> rfl
      rw [this]
      cases (!(bif (bif (bif (p.f65 == p.f41) then (!p.f24) else false) then (!p.f20) else false) then p.f25 else false)) <;> rfl
    simp only [beq_eq_false_iff_ne.mpr a2, cond_false]
    by_cases a3 : p.f73 = 3
    · simp only [beq_iff_eq.mpr a3, cond_true]
      simp only [g30, g30T, h46, get_br, decide_eq_true h.1, cond_true, hp, get_optS, with_eq h hl, get_leaf, k47, k48, beq_iff_eq.mpr a3]
      cases (bif p.f12 then (!p.f3) else false)
      case true => rfl
      simp only [cond_false]
      cases (bif (bif S then (!p.f3) else false) then true else (bif p.f12 then p.f3 else false))
      case true => rfl
      simp only [cond_false]
      cases (!(p.f65 == 0))
      · simp only [cond_false]
        cases (bif (!p.f7) then (!p.f20) else false)
        case true => rfl
        cases (bif p.f20 then p.f7 else false)
        case true => rfl
        simp only [cond_false]
        cases p.f9
        · rfl
        · cases p.f7
          · rfl
          · cases (p.f70 != p.f43) <;> rfl
      · simp only [cond_true]
        cases (bif (!p.f7) then (!p.f20) else false)
        case true => rfl
        cases (bif p.f20 then p.f7 else false)
        case true => rfl
        simp only [cond_false]
        cases (bif R then (p.f68 == 0) else false) <;> cases p.f9 <;> cases p.f7 <;> cases (p.f70 != p.f43) <;> rfl
    simp only [beq_eq_false_iff_ne.mpr a3, cond_false]
    by_cases a4 : p.f73 = 4
    · simp only [beq_iff_eq.mpr a4, cond_true]
      simp only [g31, g31T, gett_br, gett_leaf]
      cases (bif (bif (!p.f7) then (!p.f4) else false) then (!p.f13) else false)
      case true => rfl
      simp only [cond_false]
      cases (bif (bif (!p.f10) then (!p.f8) else false) then (!p.f25) else false)
      case true => rfl
      simp only [cond_false]
      cases (bif p.f4 then (!p.f25) else false)
      case true => rfl
      simp only [cond_false]
      cases (bif p.f24 then p.f25 else false)
      case true => rfl
      simp only [cond_false]
      cases (bif (p.f70 == 0) then p.f20 else false)
      case true => rfl
      simp only [cond_false]
      cases (bif (bif (bif (bif p.f24 then (!p.f25) else false) then true else (bif p.f20 then (p.f70 != 0) else false)) then true else p.f5) then (bif p.f9 then true else p.f7) else false)
      case true => rfl
      simp only [cond_false]
      cases (bif (bif (bif (p.f65 == 0) then true else p.f4) then (bif (p.f70 == 0) then true else (!p.f20)) else false) then (!p.f24) else false) <;> cases p.f9 <;> cases p.f7 <;> rfl
    simp only [beq_eq_false_iff_ne.mpr a4, cond_false]
    by_cases a5 : p.f73 = 5
    · simp only [beq_iff_eq.mpr a5, cond_true]
      cases (bif (!p.f10) then (!p.f8) else false) <;> rfl
    simp only [beq_eq_false_iff_ne.mpr a5, cond_false]
    have a6 : p.f73 = 6 := by
      by_cases b1 : p.f73 < 1
      · rw [decide_eq_true b1] at hc1; cases hc1
      · by_cases b2 : p.f73 > 6
        · rw [decide_eq_true b2, decide_eq_false b1] at hc1; cases hc1
        · omega
    simp only [beq_iff_eq.mpr a6, cond_true]
    simp only [g32, g32T, h46, get_br, decide_eq_true h.1, cond_true, hp, get_optS, with_eq h hl, get_leaf, beq_eq_false_iff_ne.mpr a3, cond_false]
    cases (bif p.f12 then (!p.f3) else false)
    case true => rfl
    simp only [cond_false]
    cases (bif (bif S then (!p.f3) else false) then true else (bif p.f12 then p.f3 else false))
    case true => rfl
    simp only [cond_false]
    have : g29 p p.f43 = !(bif (bif (bif (p.f65 == p.f43) then (!p.f24) else false) then (!p.f20) else false) then p.f25 else false) := by
      simp only [g29, g29T, gett_leaf, bne]
      cases (p.f65 == p.f43) <;> cases p.f24 <;> cases p.f20 <;> cases p.f25 <;> rfl
    rw [this]
    cases (!(bif (bif (bif (p.f65 == p.f43) then (!p.f24) else false) then (!p.f20) else false) then p.f25 else false))
    case true => rfl
    simp only [cond_false, g50, g50T, gett_leaf]
    cases (bif (p.f30 == 2) then (p.f68 != (IntKind.u8.wrap (mnI 255 (IntKind.i64.wrap (2 * (IntKind.i64.wrap p.f42)))))) else false) <;> rfl
  · have c0 : (bif decide (n < 0) then true else decide (n ≥ (x.f16.length : Int))) = true := by
      unfold In at h
      by_cases a : n < 0
      · rw [decide_eq_true a]; rfl
      · rw [decide_eq_false a, decide_eq_true (show n ≥ (x.f16.length : Int) by omega)]; rfl
    simp only [g9, g9T, g10, g10T, get_br, c0, cond_true, out_q h, Bool.not_false, get_leaf]
end Ab13
