/- Seat 11: the plain laws, third part: ages, ports that are down. -/
import Derived.Test.YtpmemjjfabfleaaAb11d
set_option maxRecDepth 100000
set_option maxHeartbeats 1000000
set_option linter.unusedVariables false
set_option linter.unusedSimpArgs false
namespace Ab11
open Go Ab

/-! ### Ages -/
def tk (_ : Nat) (p : S0) : S0 := { p with f64 := g31 p.f64, f65 := g31 p.f65, f66 := g31 p.f66, f67 := g31 p.f67, f68 := g31 p.f68, f69 := g31 p.f69, f70 := g31 p.f70, f71 := g31 p.f71 }

theorem loop16 {v : W16_0} {L : List S0} (hl : L.length ≤ 1000) (h0 : v.a0 = 0) (h33 : v.a33 = L) :
    iter gR16_0 1000000 v = some (false, { v with a0 := (L.length : Int), a33 := L.mapIdx tk }) := by
  refine iter_all (fun j => { v with a0 := (j : Int), a33 := mapT tk j L }) L.length (fun j hj => ?_) (o := (false, { v with a0 := (L.length : Int), a33 := L.mapIdx tk })) (n := 1000000) ?_ (by omega) ?_
  · have hp : L[j]? = some L[j] := List.getElem?_eq_getElem hj
    have hs : ∀ p : S0, ({ p with f64 := g31 p.f64, f65 := g31 p.f65, f66 := g31 p.f66, f67 := g31 p.f67, f68 := g31 p.f68, f69 := g31 p.f69, f70 := g31 p.f70, f71 := g31 p.f71 } : S0) = tk j p := fun _ => rfl
    simp only [gR16_0, get_br, mapT_len, mapT_at _ hp, hs, decide_eq_true (show (j : Int) < (L.length : Int) by omega), decide_eq_true (show (0 : Int) ≤ (j : Int) by omega), cond_true, Bool.and_self, Int.toNat_natCast, get_optS, get_leaf, i64_nat (j := j) (by omega), mapT_step _ hp]
  · simp only [gR16_0, get_br, mapT_all, List.length_mapIdx, Int.lt_irrefl, decide_false, cond_false, get_leaf]
  · cases v; simp at h0 h33; simp [h0, h33, mapT_zero]

theorem tick_eq {x : S7} (hl : x.f16.length ≤ 1000) : g16 x = some { x with f16 := x.f16.mapIdx tk } := by
  simp only [g16, g16T, copy_eq hl, get_optS]
  rw [get_opt, loop16 hl rfl rfl]
  simp only [Option.bind_some, get_br, cond_false, get_leaf]

def tks : Nat → List S0 → List S0
  | 0, L => L
  | j + 1, L => (tks j L).mapIdx tk
theorem tks_len (L : List S0) : ∀ j, (tks j L).length = L.length
  | 0 => rfl
  | j + 1 => by simp [tks, tks_len L j]
def dn : Nat → S0 → S0
  | 0, p => p
  | j + 1, p => tk 0 (dn j p)
theorem tks_at {L : List S0} {n : Nat} {p : S0} (h : L[n]? = some p) : ∀ j, (tks j L)[n]? = some (dn j p)
  | 0 => h
  | j + 1 => by
    unfold tks dn
    rw [List.getElem?_mapIdx, tks_at h j]; rfl
theorem dn_same (p : S0) : ∀ j, (dn j p).f2 = p.f2 ∧ (dn j p).f14 = p.f14 ∧ (dn j p).f28 = p.f28 ∧ (dn j p).f29 = p.f29 ∧ (dn j p).f72 = p.f72
  | 0 => ⟨rfl, rfl, rfl, rfl, rfl⟩
  | j + 1 => dn_same p j
theorem dn69 {p : S0} (h : B8 p.f69) : ∀ j : Nat, (j : Int) ≤ p.f69 → (dn j p).f69 = p.f69 - j
  | 0, _ => by unfold dn; omega
  | j + 1, hj => by
    have e := dn69 h j (by omega)
    show g31 (dn j p).f69 = _
    rw [e]
    unfold B8 at h
    simp only [g31, g31T, gett_br, gett_leaf]
    rw [beq_eq_false_iff_ne.mpr (by omega), IntWalk.u8_in _ (by omega)]
    simp only [cond_false]
    omega

theorem act {x : S7} {n : Int} {p : S0} (h : In x n) (hl : x.f16.length ≤ 1000) (hp : x.f16[n.toNat]? = some p) (h2 : p.f2 = true) (h14 : p.f14 = false) (h28 : p.f28 = false) (h29 : p.f29 = 3) (h72 : p.f72 = 3) :
    g8 x n = some (bif p.f69 == 0 then (wth x n (g43 p), true) else (x, false)) := by
  have e4 : g21 p = g43 p := rfl
  simp only [g8, g8T, get_br, h.q', Bool.not_true, cond_false, decide_eq_true h.1, cond_true, hp, get_optS, with_eq h hl, get_leaf, e4, h2, h14, h28, h29, h72]
  cases p.f22 <;> cases p.f69 == 0 <;> rfl

def q0 (p : S0) : S0 := { p with f2 := true, f14 := false, f28 := false, f29 := 3, f72 := 3 }

theorem loop5 {v : W5_0} {z : S7} {p : S0} {k : Nat} {n : Int} (h0 : v.a0 = n) (h : In z n) (hl : z.f16.length ≤ 1000) (hp : z.f16[n.toNat]? = some (q0 p)) (hb : B8 p.f69) (hk : p.f69 = k) (h2 : v.a2 = 0) (h20 : v.a20 = q0 p)
    (hz : S7.mk v.a3 v.a4 v.a5 v.a6 v.a7 v.a8 v.a9 v.a10 v.a11 v.a12 v.a13 v.a14 v.a15 v.a16 v.a17 v.a18 v.a19 = z) :
    iter gR5_0 1000000 v = some (false, { v with a2 := (k : Int), a19 := tks k z.f16 }) := by
  subst h0
  have hb' : 0 ≤ p.f69 ∧ p.f69 ≤ 255 := hb
  have h19 : v.a19 = z.f16 := congrArg S7.f16 hz
  have hx : ∀ M : List S0, (S7.mk v.a3 v.a4 v.a5 v.a6 v.a7 v.a8 v.a9 v.a10 v.a11 v.a12 v.a13 v.a14 v.a15 v.a16 v.a17 v.a18 M) = { z with f16 := M } := by
    intro M; rw [← hz]
  refine iter_all (fun j => { v with a2 := (j : Int), a19 := tks j z.f16 }) k (fun j hj => ?_) (o := (false, { v with a2 := (k : Int), a19 := tks k z.f16 })) (n := 1000000) ?_ (by omega) ?_
  · have hw : IntKind.i64.wrap (q0 p).f69 = (k : Int) := by rw [show (q0 p).f69 = p.f69 from rfl, IntWalk.i64_in _ (by omega), hk]
    obtain ⟨d2, d14, d28, d29, d72⟩ := dn_same (q0 p) j
    have d69 := dn69 (p := q0 p) hb j (by show (j : Int) ≤ p.f69; omega)
    have hin : In { z with f16 := tks j z.f16 } v.a0 := by
      unfold In at *; rw [tks_len]; exact h
    have hll : ({ z with f16 := tks j z.f16 } : S7).f16.length ≤ 1000 := by rw [tks_len]; exact hl
    have ha := act hin hll (tks_at hp j) d2 d14 d28 d29 d72
    rw [d69, beq_eq_false_iff_ne.mpr (show ¬ (q0 p).f69 - (j : Int) = 0 by show ¬ p.f69 - (j : Int) = 0; omega), cond_false] at ha
    simp only [gR5_0, get_br, h20, hw, hx, ha, same_self _ hll, tick_eq hll, decide_eq_true (show (j : Int) < (k : Int) by omega), get_optS, Bool.not_false, Bool.not_true, cond_true, cond_false, get_leaf, i64_nat (j := j) (by omega)]
    rw [← hz]
    rfl
  · have hw : IntKind.i64.wrap (q0 p).f69 = (k : Int) := by rw [show (q0 p).f69 = p.f69 from rfl, IntWalk.i64_in _ (by omega), hk]
    simp only [gR5_0, get_br, h20, hw, Int.lt_irrefl, decide_false, cond_false, get_leaf]
  · cases v; simp at h2 h19; simp [h2, h19, tks]

theorem law5 {x : S7} (ho : Tok x) (n : Int) : g5 x n = some true := by
  obtain ⟨y, hy, hl, ht⟩ := few_ok x
  have ho := ht ho
  simp only [g5, g5T, hy, get_optS, get_br]
  by_cases h : In y n
  · obtain ⟨p, hp, hm⟩ := h.at
    have hb : B8 p.f69 := (ho p hm).r
    have hb' : 0 ≤ p.f69 ∧ p.f69 ≤ 255 := hb
    obtain ⟨k, hk⟩ : ∃ k : Nat, p.f69 = k := ⟨p.f69.toNat, by omega⟩
    have hq : ({ p with f2 := true, f14 := false, f28 := false, f29 := 3, f72 := 3 } : S0) = q0 p := rfl
    simp only [h.q, Bool.not_true, cond_false, decide_eq_true h.1, cond_true, hp, get_optS, hq, with_eq' h (show y.f16.length ≤ 1000 by omega)]
    have hin := wth_in (q0 p) h
    have hat := wth_at (q0 p) h
    have hzl : (wth y n (q0 p)).f16.length ≤ 1000 := by rw [wth_len]; omega
    generalize wth y n (q0 p) = z at *
    rw [get_opt, loop5 (z := z) (p := p) (k := k) (n := n) rfl hin hzl hat hb hk rfl rfl ?hz]
    case hz => rfl
    simp only [Option.bind_some, get_br, cond_false]
    obtain ⟨d2, d14, d28, d29, d72⟩ := dn_same (q0 p) k
    have d69 := dn69 (p := q0 p) hb k (by show (k : Int) ≤ p.f69; omega)
    have hin' : In (S7.mk z.f0 z.f1 z.f2 z.f3 z.f4 z.f5 z.f6 z.f7 z.f8 z.f9 z.f10 z.f11 z.f12 z.f13 z.f14 z.f15 (tks k z.f16)) n := by
      unfold In at *; rw [tks_len]; exact hin
    have ha := act hin' (by rw [tks_len]; exact hzl) (tks_at hat k) d2 d14 d28 d29 d72
    rw [d69, show ((q0 p).f69 - (k : Int) == 0) = true from beq_iff_eq.mpr (by show p.f69 - (k : Int) = 0; omega), cond_true] at ha
    have hw := wth_at (g43 (dn k (q0 p))) hin'
    have hwl : ((wth (S7.mk z.f0 z.f1 z.f2 z.f3 z.f4 z.f5 z.f6 z.f7 z.f8 z.f9 z.f10 z.f11 z.f12 z.f13 z.f14 z.f15 (tks k z.f16)) n (g43 (dn k (q0 p)))).f16.length : Int) = ((tks k z.f16).length : Int) := by rw [wth_len]
    rw [get_opt, ha]
    simp only [Option.bind_some, hwl, beq_self_eq_true, cond_true, get_br, decide_eq_true h.1, hw, get_optS]
    have e1 : (g43 (dn k (q0 p))).f29 = 1 := rfl
    have e2 : (g43 (dn k (q0 p))).f72 = 2 := rfl
    have e3 : (g43 (dn k (q0 p))).f21 = true := rfl
    rw [e1, e2, e3]
    simp only [beq_self_eq_true, cond_true, awake_true, get_optS, get_leaf]
  · rw [out_q h]
    simp only [Bool.not_false, cond_true, awake_true, get_optS, get_leaf]

/-! ### Down -/
theorem d42 {p : S0} (h : p.f2 = false) : g25 (g42 p) = (g42 p, false) := by
  have e1 : (g42 p).f72 = 1 := rfl
  have e2 : (g42 p).f29 = 0 := rfl
  have e3 : (g42 p).f14 = false := rfl
  have e4 : (g42 p).f2 = false := h
  generalize g42 p = q at *
  simp only [g25, g25T, gett_br, gett_leaf, e1, e2, e3, e4]
  cases q.f22 <;> cases q.f28 <;> rfl
theorem dOff {p : S0} (h : p.f2 = false) (k : p.f29 ≠ 0) : g25 p = (g42 p, true) := by
  simp only [g25, g25T, gett_br, gett_leaf, h, bne, beq_eq_false_iff_ne.mpr k]
  cases (!(bif (bif (p.f72 == 1) then true else (p.f72 == 2)) then true else (p.f72 == 3))) <;> rfl

/-- What may become of a port that is down. -/
structure Down (p : S0) : Prop where
  no : (g25 p).2 = false → (g25 p).1 = p ∧ p.f29 = 0
  f2 : (g25 p).1.f2 = false
  yes : (g25 p).2 = true → (g25 (g25 p).1).2 = false ∨ ((g25 p).1.f29 ≠ 0)
theorem down {p : S0} (h : p.f2 = false) : Down p := by
  have c42 : ∀ r : S0 × Bool, r = (g42 p, true) → (r.2 = false → r.1 = p ∧ p.f29 = 0) ∧ r.1.f2 = false ∧ (r.2 = true → (g25 r.1).2 = false ∨ r.1.f29 ≠ 0) := by
    intro r hr; subst hr
    exact ⟨fun h => (by cases h), h, fun _ => .inl (by show (g25 (g42 p)).2 = false; rw [d42 h])⟩
  have c44 : ∀ r : S0 × Bool, r = (g44 p, true) → (r.2 = false → r.1 = p ∧ p.f29 = 0) ∧ r.1.f2 = false ∧ (r.2 = true → (g25 r.1).2 = false ∨ r.1.f29 ≠ 0) := by
    intro r hr; subst hr
    exact ⟨fun h => (by cases h), h, fun _ => .inr (show (2 : Int) ≠ 0 by decide)⟩
  suffices hs : ∀ r, r = g25 p → (r.2 = false → r.1 = p ∧ p.f29 = 0) ∧ r.1.f2 = false ∧ (r.2 = true → (g25 r.1).2 = false ∨ r.1.f29 ≠ 0) by
    obtain ⟨a, b, c⟩ := hs _ rfl
    exact ⟨a, b, c⟩
  intro r hr
  by_cases k : p.f29 = 0
  · have c0 : ∀ r : S0 × Bool, r = (p, false) → (r.2 = false → r.1 = p ∧ p.f29 = 0) ∧ r.1.f2 = false ∧ (r.2 = true → (g25 r.1).2 = false ∨ r.1.f29 ≠ 0) := by
      intro r hr; subst hr
      exact ⟨fun _ => ⟨rfl, k⟩, h, fun h => (by cases h)⟩
    simp only [g25, g25T, gett_br, gett_leaf, h, k] at hr
    by_cases a1 : p.f72 = 1
    · rw [a1] at hr
      cases h14 : p.f14
      · rw [h14] at hr
        refine c0 r (hr.trans ?_)
        cases p.f22 <;> cases p.f28 <;> rfl
      · rw [h14] at hr
        exact c42 r hr
    by_cases a2 : p.f72 = 2
    · rw [a2] at hr
      cases h22 : p.f22 <;> cases h28 : p.f28 <;> rw [h22, h28] at hr
      · exact c0 r hr
      · exact c0 r hr
      · exact c0 r hr
      · exact c44 r hr
    by_cases a3 : p.f72 = 3
    · rw [a3] at hr
      cases h28 : p.f28
      · cases h14 : p.f14
        · rw [h28, h14] at hr
          refine c0 r (hr.trans ?_)
          cases p.f22 <;> rfl
        · rw [h28, h14] at hr
          have hr : r = (g45 p, true) := hr.trans (by cases p.f22 <;> rfl)
          subst hr
          obtain ⟨e2, e28, e72, e14, e29⟩ := recv_keeps p
          refine ⟨fun h => by (cases h), e2.trans h, fun _ => ?_⟩
          rcases e29 with e | e
          · exact .inr (show (g45 p).f29 ≠ 0 by rw [e]; decide)
          · refine .inl ?_
            show (g25 (g45 p)).2 = false
            rw [h] at e2; rw [h28] at e28; rw [a3] at e72; rw [k] at e
            generalize g45 p = q at *
            simp only [g25, g25T, gett_br, gett_leaf, e2, e28, e72, e14, e]
            cases q.f22 <;> rfl
      · cases h22 : p.f22
        · rw [h28, h22] at hr
          refine c0 r (hr.trans ?_)
          cases p.f14 <;> rfl
        · rw [h28, h22] at hr
          refine c44 r (hr.trans ?_)
          cases p.f14 <;> rfl
    · rw [beq_eq_false_iff_ne.mpr a1, beq_eq_false_iff_ne.mpr a2, beq_eq_false_iff_ne.mpr a3] at hr
      exact c42 r hr
  · exact c42 r (hr.trans (dOff h k))

theorem step_off {x : S7} {n : Int} {p : S0} (h : In x n) (hl : x.f16.length ≤ 1000) (hp : x.f16[n.toNat]? = some p) (h2 : p.f2 = false) (h29 : p.f29 ≠ 0) : g8 x n = some (wth x n (g42 p), true) := by
  have e3 : g20 p = g42 p := rfl
  simp only [g8, g8T, get_br, h.q', Bool.not_true, cond_false, decide_eq_true h.1, cond_true, hp, get_optS, with_eq h hl, get_leaf, e3, h2, bne, beq_eq_false_iff_ne.mpr h29]
  cases (!(bif (bif (p.f72 == 1) then true else (p.f72 == 2)) then true else (p.f72 == 3))) <;> rfl

theorem step_no {x : S7} {n : Int} {p : S0} (h : In x n) (hp : x.f16[n.toNat]? = some p) (h2 : p.f2 = false) (hn : (g25 p).2 = false) : g8 x n = some (x, false) := by
  have h29 := ((down h2).no hn).2
  simp only [g25, g25T, gett_br, gett_leaf, h2, h29] at hn
  simp only [g8, g8T, get_br, h.q', Bool.not_true, cond_false, decide_eq_true h.1, cond_true, hp, get_optS, get_leaf, h2, h29]
  generalize g24 x n = W
  generalize g42 p = q1 at *
  generalize g43 p = q2 at *
  generalize g44 p = q3 at *
  generalize g45 p = q4 at *
  generalize g20 p = r1 at *
  generalize g21 p = r2 at *
  generalize g22 p = r4 at *
  generalize g23 p = r3 at *
  rw [show (p.f72 != 3) = !(p.f72 == 3) from rfl] at hn
  by_cases a1 : p.f72 = 1
  · rw [a1] at hn ⊢
    cases h14 : p.f14 <;> rw [h14] at hn <;> cases h22 : p.f22 <;> cases h28 : p.f28 <;> first | rfl | cases hn
  by_cases a2 : p.f72 = 2
  · rw [a2] at hn ⊢
    cases h22 : p.f22 <;> cases h28 : p.f28 <;> rw [h22, h28] at hn <;> cases h14 : p.f14 <;> first | rfl | cases hn
  by_cases a3 : p.f72 = 3
  · rw [a3] at hn ⊢
    cases h14 : p.f14 <;> cases h28 : p.f28 <;> cases h22 : p.f22 <;> rw [h14, h28, h22] at hn <;> first | rfl | cases hn
  · rw [beq_eq_false_iff_ne.mpr a1, beq_eq_false_iff_ne.mpr a2, beq_eq_false_iff_ne.mpr a3] at hn
    cases hn

/-- A port that is down hears nothing. -/
theorem deaf {x : S7} {n : Int} {p : S0} (m : S8) (h : In x n) (hp : x.f16[n.toNat]? = some p) (h2 : p.f2 = false) : hrd x n m = x := by
  unfold hrd
  rw [hp]
  simp only [h.q, cond_true]
  have : g27 p m = p := by simp only [g27, g27T, gett_br, gett_leaf, h2]; rfl
  rw [this, wth_self hp]

theorem law6 {x : S7} (ho : Tok x) (n : Int) (m : S8) : g6 x n m = some true := by
  obtain ⟨y, hy, hl, ht⟩ := few_ok x
  have ho := ht ho
  simp only [g6, g6T, hy, get_optS, get_br]
  by_cases h : In y n
  · obtain ⟨p, hp, hm⟩ := h.at
    obtain ⟨p', hp'⟩ : ∃ p', p' = ({ p with f2 := false } : S0) := ⟨_, rfl⟩
    have hup : g17 y n false = some (wth y n p') := by
      simp only [g17, g17T, copy_eq (show y.f16.length ≤ 1000 by omega), get_optS, h.q, get_br, cond_true, decide_eq_true h.1, decide_eq_true h.2, Bool.and_self, hp, get_leaf]
      rw [hp']; rfl
    have hpo : Pok p' := by rw [hp']; exact ⟨(ho p hm).m, (ho p hm).p, (ho p hm).d, (ho p hm).a, (ho p hm).b, (ho p hm).c, (ho p hm).s, (ho p hm).t, (ho p hm).u, (ho p hm).r⟩
    have h2 : p'.f2 = false := by rw [hp']
    have hin := wth_in p' h
    have hat := wth_at p' h
    have hzl : (wth y n p').f16.length ≤ 1000 := by rw [wth_len]; omega
    simp only [h.q, hup, Bool.not_true, cond_false, get_optS]
    generalize wth y n p' = z at *
    -- what follows once no step is left
    have fin : ∀ (t : S7) (s : S0), In t n → t.f16.length ≤ 1000 → t.f16[n.toNat]? = some s → s.f2 = false → (g25 s).2 = false →
        g11 t n m = some t ∧ g8 t n = some (t, false) ∧ s.f29 = 0 := by
      intro t s ti tl ts s2 sn
      exact ⟨by rw [hear_eq m tl, deaf m ti ts s2], step_no ti ts s2 sn, ((down s2).no sn).2⟩
    have D := down h2
    have hs1 := step_eq (x := z) (n := n) hzl (fun q hq => by rw [hat] at hq; simp only [Option.some.injEq] at hq; rw [← hq]; exact ⟨receives_eq hpo, updated_eq hpo⟩)
    rw [step_in hin hat] at hs1
    cases c1 : (g25 p').2
    · obtain ⟨f1, f2, f3⟩ := fin z p' hin hzl hat h2 c1
      simp only [f1, f2, get_optS, get_br, hin.q, bne_self_eq_false, Bool.not_true, Bool.not_false, cond_true, cond_false, decide_eq_true h.1, hat, f3, beq_self_eq_true, awake_true, get_leaf]
      cases p'.f72 == 1 <;> rfl
    · rw [c1, cond_true] at hs1
      have hin1 := wth_in (g25 p').1 hin
      have hat1 := wth_at (g25 p').1 hin
      have hl1 : (wth z n (g25 p').1).f16.length ≤ 1000 := by rw [wth_len]; exact hzl
      simp only [hs1, get_optS, Bool.not_true, cond_false]
      have q2 := D.f2
      rcases D.yes c1 with c2 | c2
      · generalize (g25 p').1 = q at *
        generalize wth z n q = z1 at *
        obtain ⟨f1, f2, f3⟩ := fin z1 q hin1 hl1 hat1 q2 c2
        simp only [f1, f2, get_optS, get_br, hin1.q, bne_self_eq_false, Bool.not_true, Bool.not_false, cond_true, cond_false, decide_eq_true h.1, hat1, f3, beq_self_eq_true, awake_true, get_leaf]
        cases q.f72 == 1 <;> rfl
      · generalize (g25 p').1 = q at *
        generalize wth z n q = z1 at *
        have hs2 := step_off hin1 hl1 hat1 q2 c2
        have hin2 := wth_in (g42 q) hin1
        have hat2 := wth_at (g42 q) hin1
        have hl2 : (wth z1 n (g42 q)).f16.length ≤ 1000 := by rw [wth_len]; exact hl1
        simp only [hs2, get_optS, get_br, Bool.not_true, cond_false]
        obtain ⟨f1, f2, f3⟩ := fin _ _ hin2 hl2 hat2 q2 (by rw [d42 q2])
        generalize wth z1 n (g42 q) = z2 at *
        generalize g42 q = r at *
        simp only [f1, f2, get_optS, get_br, hin2.q, bne_self_eq_false, Bool.not_true, Bool.not_false, cond_true, cond_false, decide_eq_true h.1, hat2, f3, beq_self_eq_true, awake_true, get_leaf]
        cases r.f72 == 1 <;> rfl
  · rw [out_q h]
    simp only [Bool.not_false, cond_true, awake_true, get_optS, get_leaf]
end Ab11
