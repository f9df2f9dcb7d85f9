/- Seat 13: the plain laws: who may forward, other ports. -/
import Derived.Test.YtinfcoabfdegcaaAb13f
set_option maxRecDepth 100000
set_option maxHeartbeats 2000000
set_option linter.unusedVariables false
set_option linter.unusedSimpArgs false
namespace Ab13
open Go Ab

/-- What a port may have become. -/
def bad1 (p q : S0) : Bool := (bif (bif q.f7 then (!p.f7) else false) then (bif (bif (!p.f9) then true else (!q.f9)) then true else (bif (bif (bif (q.f30 != 3) then (q.f30 != 4) else false) then (p.f73 != 3) else false) then (p.f73 != 4) else false)) else false)
def bad2 (p q : S0) : Bool := (bif (bif (bif (q.f30 != p.f30) then (q.f30 != 3) else false) then (q.f30 != 4) else false) then (bif q.f9 then true else q.f7) else false)
def Fine (p q : S0) : Prop := bad1 p q = false ∧ bad2 p q = false
theorem bif_ff (c : Bool) : (bif c then false else false) = false := by cases c <;> rfl
theorem fine1 {p q : S0} (h : q.f7 = p.f7 ∨ q.f7 = false) : bad1 p q = false := by
  unfold bad1
  rcases h with h | h
  · rw [h]; cases p.f7 <;> rfl
  · rw [h]; rfl
theorem leafA {p q : S0} (h : q.f7 = p.f7 ∨ q.f7 = false) (k : q.f30 = p.f30) : Fine p q := by
  refine ⟨fine1 h, ?_⟩
  unfold bad2; rw [k]; simp
theorem leafB {p q : S0} (h : q.f7 = false) (k : q.f9 = false) : Fine p q := by
  refine ⟨fine1 (.inr h), ?_⟩
  unfold bad2; rw [h, k]; exact bif_ff _
theorem leafC {p q : S0} (h : q.f7 = p.f7 ∨ q.f7 = false) (k : q.f30 = 3 ∨ q.f30 = 4) : Fine p q := by
  refine ⟨fine1 h, ?_⟩
  unfold bad2
  rcases k with k | k
  · rw [k, show ((3 : Int) != 3) = false from rfl, bif_ff]; rfl
  · rw [k, show ((4 : Int) != 4) = false from rfl, bif_ff]; rfl
theorem leafD {p q : S0} (h : p.f9 = true) (h' : q.f9 = true) (k : p.f73 = 3 ∨ p.f73 = 4) (k2 : q.f30 = p.f30) : Fine p q := by
  refine ⟨?_, ?_⟩
  · unfold bad1
    rw [h, h']
    rcases k with k | k
    · rw [k, show ((3 : Int) != 3) = false from rfl, bif_ff]
      exact bif_ff _
    · rw [k, show ((4 : Int) != 4) = false from rfl, bif_ff]
      exact bif_ff _
  · unfold bad2; rw [k2]; simp

/-- What a step of port n may come to, all told. -/
structure Came (x : S6) (n : Int) (p : S0) (r : S6 × Bool) : Prop where
  f0 : r.1.f0 = x.f0
  f7 : r.1.f7 = x.f7
  f8 : S5.mk r.1.f8 r.1.f9 r.1.f10 r.1.f11 = S5.mk x.f8 x.f9 x.f10 x.f11
  len : r.1.f16.length = x.f16.length
  at_ : ∃ q, r.1.f16[n.toNat]? = some q ∧ Fine p q
  others : ∀ (i : Nat) a, i ≠ n.toNat → x.f16[i]? = some a → ∃ b, r.1.f16[i]? = some b ∧ (b = a ∨ b = pt20 0 a ∨ b = pt24 0 a)
def Cm (x : S6) (n : Int) (p : S0) (o : Option (S6 × Bool)) : Prop := ∃ r, o = some r ∧ Came x n p r
theorem cm_bif {x : S6} {n : Int} {p : S0} {c : Bool} {a b : Option (S6 × Bool)} (h : Cm x n p a) (k : Cm x n p b) : Cm x n p (bif c then a else b) := by cases c <;> assumption
theorem cm_if {x : S6} {n : Int} {p : S0} {c : Bool} {a b : Option (S6 × Bool)} (h : c = true → Cm x n p a) (k : c = false → Cm x n p b) : Cm x n p (bif c then a else b) := by
  cases c
  · exact k rfl
  · exact h rfl
theorem cm_wth {x : S6} {n : Int} {p q : S0} (h : In x n) (hq : Fine p q) : Cm x n p (some ({ x with f16 := x.f16.set n.toNat q }, true)) :=
  ⟨_, rfl, rfl, rfl, rfl, wth_len x n q, ⟨q, wth_at q h, hq⟩, fun i a hi ha => ⟨a, by
    show (x.f16.set n.toNat q)[i]? = some a
    rw [List.getElem?_set, if_neg (Ne.symm hi)]; exact ha, .inl rfl⟩⟩
theorem cm_stay {x : S6} {n : Int} {p : S0} (hp : x.f16[n.toNat]? = some p) : Cm x n p (some (x, false)) :=
  ⟨_, rfl, rfl, rfl, rfl, rfl, ⟨p, hp, leafA (.inl rfl) rfl⟩, fun i a _ ha => ⟨a, ha, .inl rfl⟩⟩
theorem cm_all24 {x : S6} {n : Int} {p q : S0} (h : In x n) (hq : Fine p (pt24 0 q)) : Cm x n p (some (all24 (wth x n q), true)) :=
  ⟨_, rfl, rfl, rfl, rfl, by show ((wth x n q).f16.mapIdx pt24).length = _; rw [List.length_mapIdx, wth_len], ⟨pt24 0 q, by
    show ((wth x n q).f16.mapIdx pt24)[n.toNat]? = _
    rw [List.getElem?_mapIdx, wth_at q h]; rfl, hq⟩, fun i a hi ha => ⟨pt24 0 a, by
    show ((x.f16.set n.toNat q).mapIdx pt24)[i]? = _
    rw [List.getElem?_mapIdx, List.getElem?_set, if_neg (Ne.symm hi), ha]; rfl, .inr (.inr rfl)⟩⟩
theorem cm_all20 {x : S6} {n : Int} {p : S0} (hp : x.f16[n.toNat]? = some p) : Cm x n p (some (all20 x, true)) :=
  ⟨_, rfl, rfl, rfl, rfl, by show (x.f16.mapIdx pt20).length = _; simp, ⟨pt20 0 p, by
    show (x.f16.mapIdx pt20)[n.toNat]? = _
    rw [List.getElem?_mapIdx, hp]; rfl, leafA (.inl rfl) rfl⟩, fun i a hi ha => ⟨pt20 0 a, by
    show (x.f16.mapIdx pt20)[i]? = _
    rw [List.getElem?_mapIdx, ha]; rfl, .inr (.inl rfl)⟩⟩

theorem step_came {x : S6} {n : Int} {p : S0} (h : In x n) (hl : x.f16.length ≤ 1000) (hp : x.f16[n.toNat]? = some p) : Cm x n p (g9 x n) := by
  have c0 : (bif decide (n < 0) then true else decide (n ≥ (x.f16.length : Int))) = false := by
    rw [decide_eq_false (show ¬ n < 0 by have := h.1; omega), decide_eq_false (show ¬ n ≥ (x.f16.length : Int) by have := h.2; omega)]; rfl
  have hcl := clone_small (c := 0) x.f16 (show 248 ≤ 1000000 by omega) hl
  have k52 : ∀ q, g52 { x with f16 := x.f16.set n.toNat q } = some (all24 (wth x n q)) := fun q => sync_eq' (x := wth x n q) (by rw [wth_len]; exact hl)
  have a52 : ∀ q, (all24 (wth x n q)).f16[n.toNat]? = some (pt24 0 q) := fun q => by
    show ((wth x n q).f16.mapIdx pt24)[n.toNat]? = _
    rw [List.getElem?_mapIdx, wth_at q h]; rfl
  have l52 : ∀ q, (all24 (wth x n q)).f16.length = x.f16.length := fun q => by
    show ((wth x n q).f16.mapIdx pt24).length = _
    rw [List.length_mapIdx, wth_len]
  have b52 : ∀ q, ((all24 (wth x n q)).f16.isEmpty || cloneB 0 248 (all24 (wth x n q)).f16) = true := fun q => by
    rw [clone_small (c := 0) _ (show 248 ≤ 1000000 by omega) (by rw [l52]; exact hl), Bool.or_true]
  have t52 : ∀ q, List.set (all24 (wth x n q)).f16 n.toNat (pt24 0 q) = (all24 (wth x n q)).f16 := fun q => set_self (a52 q)
  have k42 : g42 { x with f16 := x.f16.set n.toNat p } = some (all20 x) := by
    have : ({ x with f16 := x.f16.set n.toNat p } : S6) = x := by rw [set_self hp]
    rw [this]; exact re_eq' hl
  have a42 : (all20 x).f16[n.toNat]? = some (pt20 0 p) := by
    show (x.f16.mapIdx pt20)[n.toNat]? = _
    rw [List.getElem?_mapIdx, hp]; rfl
  have l42 : (all20 x).f16.length = x.f16.length := by show (x.f16.mapIdx pt20).length = _; simp
  have b42 : ((all20 x).f16.isEmpty || cloneB 0 248 (all20 x).f16) = true := by
    rw [clone_small (c := 0) _ (show 248 ≤ 1000000 by omega) (by rw [l42]; exact hl), Bool.or_true]
  have t42 : List.set (all20 x).f16 n.toNat (pt20 0 p) = (all20 x).f16 := set_self a42
  simp only [g9, g9T, get_br, c0, cond_false, decide_eq_true h.1, decide_eq_true h.2, Bool.and_self, Bool.or_true, hcl, cond_true, hp, get_optS, get_leaf, k52, a52, l52, b52, t52, k42, a42, l42, b42, t42, all_eq' hl, ree_eq' hl]
  generalize none_ (notSyn n) x.f16 = S
  generalize none_ (notRe n) x.f16 = R
  clear c0 hcl k52 a52 l52 b52 t52 k42 a42 l42 b42 t42
  have st := cm_stay (x := x) (n := n) hp
  have a20 := cm_all20 (x := x) (n := n) hp
  refine cm_if (fun _ => cm_wth h (leafB rfl rfl)) (fun _ => cm_if (fun _ => st) (fun _ => cm_if (fun _ => ?_) (fun _ => cm_if (fun _ => ?_) (fun _ => cm_if (fun _ => ?_) (fun _ => cm_if (fun e3 => ?_) (fun _ => cm_if (fun e4 => ?_) (fun _ => ?_)))))))
  · refine cm_if (fun e => cm_wth h (leafC (.inl rfl) (.inl (eq_of_beq e)))) (fun _ => cm_if (fun e => cm_wth h (leafC (.inl rfl) (.inr (eq_of_beq e)))) (fun _ => cm_bif (cm_wth h (leafB rfl rfl)) (cm_wth h (leafB rfl rfl))))
  · exact cm_bif (cm_wth h (leafA (.inl rfl) rfl)) st
  · exact cm_bif (cm_wth h (leafA (.inl rfl) rfl)) st
  · have h73 := eq_of_beq e3
    refine cm_bif (cm_all24 h (leafA (.inl rfl) rfl)) (cm_bif ?_ (cm_bif ?_ ?_))
    · repeat' (first | exact cm_wth h (leafA (.inl rfl) rfl) | apply cm_bif)
    · generalize (bif R then (p.f68 == 0) else false) = Z
      refine cm_bif a20 (cm_bif (cm_wth h (leafA (.inl rfl) rfl)) (cm_if (fun _ => cm_wth h (leafA (.inl rfl) rfl)) (fun e => cm_if (fun e' => ?_) (fun _ => cm_bif (cm_wth h (leafA (.inl rfl) rfl)) st))))
      have h9 : p.f9 = true := by
        cases Z
        · cases e'
        · cases h9 : p.f9
          · rw [h9] at e; cases e
          · rfl
      exact cm_wth h (leafD h9 h9 (.inl h73) rfl)
    · refine cm_bif a20 (cm_bif (cm_wth h (leafA (.inl rfl) rfl)) (cm_if (fun _ => cm_wth h (leafA (.inl rfl) rfl)) (fun e => cm_if (fun e' => ?_) (fun _ => cm_bif (cm_wth h (leafA (.inl rfl) rfl)) st))))
      have h9 : p.f9 = true := by
        cases h9 : p.f9
        · rw [h9] at e; cases e
        · rfl
      exact cm_wth h (leafD h9 h9 (.inl h73) rfl)
  · have h73 := eq_of_beq e4
    refine cm_bif (cm_wth h (leafA (.inl rfl) rfl)) (cm_bif (cm_wth h (leafA (.inl rfl) rfl)) (cm_bif (cm_wth h (leafA (.inl rfl) rfl)) (cm_bif (cm_wth h (leafA (.inl rfl) rfl)) (cm_bif (cm_wth h (leafA (.inl rfl) rfl)) (cm_bif (cm_wth h (leafA (.inr rfl) rfl)) (cm_if (fun _ => cm_wth h (leafA (.inl rfl) rfl)) (fun e => cm_if (fun e' => ?_) (fun _ => st))))))))
    have h9 : p.f9 = true := by
      revert e e'
      generalize (bif (bif (bif (p.f65 == 0) then true else p.f4) then (bif (p.f70 == 0) then true else (!p.f20)) else false) then (!p.f24) else false) = Z
      intro e e'
      cases Z
      · cases e'
      · cases h9 : p.f9
        · rw [h9] at e; cases e
        · rfl
    exact cm_wth h (leafD h9 h9 (.inr h73) rfl)
  · repeat' (first | exact st | exact cm_wth h (leafA (.inl rfl) rfl) | exact cm_all24 h (leafA (.inl rfl) rfl) | apply cm_bif)

theorem law4 (x : S6) (n : Int) : g4 x n = some true := by
  obtain ⟨y, hy, hl⟩ := few_ok x
  by_cases h : In y n
  · obtain ⟨p, hp, _⟩ := h.at
    obtain ⟨r, hr, hc⟩ := step_came h (show y.f16.length ≤ 1000 by omega) hp
    obtain ⟨q, hq, hf⟩ := hc.at_
    have hlen : (r.1.f16.length : Int) = y.f16.length := by rw [hc.len]
    have b1 := hf.1
    have b2 := hf.2
    unfold bad1 at b1
    unfold bad2 at b2
    simp only [g4, g4T, hy, get_optS, hr, h.q, hlen, bne_self_eq_false, Bool.not_true, cond_false, get_br, decide_eq_true h.1, cond_true, hp, hq, b1, b2, awake_true, get_leaf]
    cases r.2 <;> rfl
  · simp only [g4, g4T, hy, get_optS, step_out h, out_q h, Bool.not_false, cond_true, get_br, awake_true, get_leaf]

theorem came_out {y : S6} (hl : y.f16.length ≤ 1000) (n : Int) : ∃ r, g9 y n = some r ∧ r.1.f0 = y.f0 ∧ r.1.f7 = y.f7 ∧ S5.mk r.1.f8 r.1.f9 r.1.f10 r.1.f11 = S5.mk y.f8 y.f9 y.f10 y.f11 ∧ r.1.f16.length = y.f16.length ∧
    ∀ (i : Nat) a, (i : Int) ≠ n → y.f16[i]? = some a → ∃ b, r.1.f16[i]? = some b ∧ (b = a ∨ b = pt20 0 a ∨ b = pt24 0 a) := by
  by_cases h : In y n
  · obtain ⟨p, hp, _⟩ := h.at
    obtain ⟨r, hr, hc⟩ := step_came h hl hp
    exact ⟨r, hr, hc.f0, hc.f7, hc.f8, hc.len, fun i a hi ha => hc.others i a (by have := h.1; omega) ha⟩
  · exact ⟨_, step_out h, rfl, rfl, rfl, rfl, fun i a _ ha => ⟨a, ha, .inl rfl⟩⟩

theorem law5 (x : S6) (n : Int) : g5 x n = some true := by
  obtain ⟨y, hy, hl⟩ := few_ok x
  obtain ⟨r, hr, e0, e7, e8, elen, hoth⟩ := came_out (show y.f16.length ≤ 1000 by omega) n
  have hlen : (r.1.f16.length : Int) = y.f16.length := by rw [elen]
  have e5 : ∀ p, eqS5 p p = true := fun p => by simp only [eqS5, beq_self_eq_true, Bool.and_self]
  have loop : ∀ v : W5_0, v.a0 = n → v.a2 = 0 → v.a19 = y.f16 → v.a36 = r.1.f16 → iter gR5_0 1000000 v = some (false, { v with a2 := (y.f16.length : Int) }) := by
    intro v h0 h2 h19 h36
    refine iter_all (fun j => { v with a2 := (j : Int) }) y.f16.length (fun j hj => ?_) (o := (false, { v with a2 := (y.f16.length : Int) })) (n := 1000000) ?_ (by omega) ?_
    · have ha : y.f16[j]? = some y.f16[j] := List.getElem?_eq_getElem hj
      by_cases hjn : (j : Int) = n
      · simp only [gR5_0, h0, h19, h36, get_br, decide_eq_true (show (j : Int) < (y.f16.length : Int) by omega), beq_iff_eq.mpr hjn, cond_true, get_leaf, i64_nat (j := j) (by omega)]
      · obtain ⟨b, hb, hab⟩ := hoth j _ hjn ha
        simp only [gR5_0, h0, h19, h36, get_br, decide_eq_true (show (j : Int) < (y.f16.length : Int) by omega), beq_eq_false_iff_ne.mpr hjn, decide_eq_true (show (0 : Int) ≤ (j : Int) by omega), cond_true, cond_false, Int.toNat_natCast, ha, hb, get_optS, get_leaf, i64_nat (j := j) (by omega)]
        generalize y.f16[j] = a at *
        have t1 : (bif (bif a.f24 then (!b.f24) else false) then true else (bif a.f20 then (!b.f20) else false)) = false := by
          rcases hab with rfl | rfl | rfl
          · cases b.f24 <;> cases b.f20 <;> rfl
          · show (bif (bif a.f24 then (!a.f24) else false) then true else (bif a.f20 then (!true) else false)) = false
            cases a.f24 <;> cases a.f20 <;> rfl
          · show (bif (bif a.f24 then (!true) else false) then true else (bif a.f20 then (!a.f20) else false)) = false
            cases a.f24 <;> cases a.f20 <;> rfl
        have t2 : ({ b with f20 := a.f20, f24 := a.f24 } : S0) = a := by
          rcases hab with rfl | rfl | rfl <;> rfl
        simp only [t1, t2, eqS0_self, Bool.not_true, cond_false]
    · simp only [gR5_0, h19, get_br, Int.lt_irrefl, decide_false, cond_false, get_leaf]
    · cases v; simp at h2; simp [h2]
  simp only [g5, g5T, hy, get_optS, hr, hlen, e0, e7, e8, e5, bne_self_eq_false, Bool.not_true, cond_false, get_br]
  rw [get_opt, loop _ rfl rfl rfl rfl]
  simp only [Option.bind_some, get_br, cond_false, awake_true, get_optS, get_leaf]
end Ab13
