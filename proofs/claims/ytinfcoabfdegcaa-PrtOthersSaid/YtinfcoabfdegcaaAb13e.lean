/- Seat 13: the plain laws, third part. -/
import Derived.Test.YtinfcoabfdegcaaAb13d
set_option maxRecDepth 100000
set_option maxHeartbeats 1000000
set_option linter.unusedVariables false
set_option linter.unusedSimpArgs false
namespace Ab13
open Go Ab

/-- What a step of port n may come to. -/
def Good (x : S6) (n : Int) (Q : S0 → Prop) (o : Option (S6 × Bool)) : Prop := ∃ r, o = some r ∧ r.1.f16.length = x.f16.length ∧ ∃ q, r.1.f16[n.toNat]? = some q ∧ Q q
theorem good_bif {x : S6} {n : Int} {Q : S0 → Prop} {c : Bool} {a b : Option (S6 × Bool)} (h : Good x n Q a) (k : Good x n Q b) : Good x n Q (bif c then a else b) := by cases c <;> assumption
theorem good_wth {x : S6} {n : Int} {Q : S0 → Prop} (h : In x n) {q : S0} (hq : Q q) : Good x n Q (some ({ x with f16 := x.f16.set n.toNat q }, true)) :=
  ⟨_, rfl, wth_len x n q, q, wth_at q h, hq⟩
theorem good_stay {x : S6} {n : Int} {Q : S0 → Prop} {p : S0} (hp : x.f16[n.toNat]? = some p) (hq : Q p) : Good x n Q (some (x, false)) := ⟨_, rfl, rfl, p, hp, hq⟩

theorem step_good {x : S6} {n : Int} {p : S0} (h : In x n) (hl : x.f16.length ≤ 1000) (hp : x.f16[n.toNat]? = some p) :
    Good x n (fun q => p.f3 = false → none_ (notSyn n) x.f16 = false → q.f3 = false) (g9 x n) := by
  have c0 : (bif decide (n < 0) then true else decide (n ≥ (x.f16.length : Int))) = false := by
    rw [decide_eq_false (show ¬ n < 0 by have := h.1; omega), decide_eq_false (show ¬ n ≥ (x.f16.length : Int) by have := h.2; omega)]; rfl
  have hcl := clone_small (c := 0) x.f16 (show 248 ≤ 1000000 by omega) hl
  have k52 : ∀ q, g52 { x with f16 := x.f16.set n.toNat q } = some (all24 (wth x n q)) := fun q => sync_eq' (x := wth x n q) (by rw [wth_len]; exact hl)
  have a52 : ∀ q, (all24 (wth x n q)).f16[n.toNat]? = some (pt24 0 q) := fun q => by
    show ((wth x n q).f16.mapIdx pt24)[n.toNat]? = _
    rw [List.getElem?_mapIdx, wth_at q h]; rfl
  have l52 : ∀ q, (all24 (wth x n q)).f16.length = x.f16.length := fun q => by
    show ((wth x n q).f16.mapIdx pt24).length = _
    rw [List.length_mapIdx, wth_len]
  have b52 : ∀ q, ((all24 (wth x n q)).f16.isEmpty || cloneB 0 248 (all24 (wth x n q)).f16) = true := fun q => by
    rw [clone_small (c := 0) _ (show 248 ≤ 1000000 by omega) (by rw [l52]; exact hl), Bool.or_true]
  have t52 : ∀ q, List.set (all24 (wth x n q)).f16 n.toNat (pt24 0 q) = (all24 (wth x n q)).f16 := fun q => set_self (a52 q)
  have k42 : g42 { x with f16 := x.f16.set n.toNat p } = some (all20 x) := by
    have : ({ x with f16 := x.f16.set n.toNat p } : S6) = x := by rw [set_self hp]
    rw [this]; exact re_eq' hl
  have a42 : (all20 x).f16[n.toNat]? = some (pt20 0 p) := by
    show (x.f16.mapIdx pt20)[n.toNat]? = _
    rw [List.getElem?_mapIdx, hp]; rfl
  have l42 : (all20 x).f16.length = x.f16.length := by show (x.f16.mapIdx pt20).length = _; simp
  have b42 : ((all20 x).f16.isEmpty || cloneB 0 248 (all20 x).f16) = true := by
    rw [clone_small (c := 0) _ (show 248 ≤ 1000000 by omega) (by rw [l42]; exact hl), Bool.or_true]
  have t42 : List.set (all20 x).f16 n.toNat (pt20 0 p) = (all20 x).f16 := set_self a42
  simp only [g9, g9T, get_br, c0, cond_false, decide_eq_true h.1, decide_eq_true h.2, Bool.and_self, Bool.or_true, hcl, cond_true, hp, get_optS, get_leaf, k52, a52, l52, b52, t52, k42, a42, l42, b42, t42, all_eq' hl, ree_eq' hl]
  generalize none_ (notSyn n) x.f16 = S at *
  generalize none_ (notRe n) x.f16 = R at *
  have o52 : ∀ q : S0, (p.f3 = false → S = false → q.f3 = false) → Good x n (fun q => p.f3 = false → S = false → q.f3 = false) (some (all24 (wth x n q), true)) := fun q hq => ⟨_, rfl, l52 q, _, a52 q, hq⟩
  have o42 : Good x n (fun q => p.f3 = false → S = false → q.f3 = false) (some (all20 x, true)) := ⟨_, rfl, l42, _, a42, fun h _ => h⟩
  have os : Good x n (fun q => p.f3 = false → S = false → q.f3 = false) (some (x, false)) := good_stay hp fun h _ => h
  have ow : ∀ q : S0, (p.f3 = false → S = false → q.f3 = false) → Good x n (fun q => p.f3 = false → S = false → q.f3 = false) (some ({ x with f16 := x.f16.set n.toNat q }, true)) := fun q hq => good_wth h hq
  cases hS : S
  · subst hS
    cases h3 : p.f3
    · rw [show (bif p.f12 then false else false) = false by cases p.f12 <;> rfl]
      simp only [cond_false]
      repeat' (first | exact good_stay hp (fun _ _ => h3) | exact good_wth h (fun _ _ => rfl) | exact ⟨_, rfl, l42, _, a42, fun _ _ => h3⟩ | exact ⟨_, rfl, l52 _, _, a52 _, fun _ _ => rfl⟩ | apply good_bif)
    · repeat' (first | exact good_stay hp (fun h => by cases h) | exact good_wth h (fun h => by cases h) | exact ⟨_, rfl, l42, _, a42, fun h => by cases h⟩ | exact ⟨_, rfl, l52 _, _, a52 _, fun h => by cases h⟩ | apply good_bif)
  · subst hS
    repeat' (first | exact good_stay hp (fun _ h => by cases h) | exact good_wth h (fun _ h => by cases h) | exact ⟨_, rfl, l42, _, a42, fun _ h => by cases h⟩ | exact ⟨_, rfl, l52 _, _, a52 _, fun _ h => by cases h⟩ | apply good_bif)
end Ab13
