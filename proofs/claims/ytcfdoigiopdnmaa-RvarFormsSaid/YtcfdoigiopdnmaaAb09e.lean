/- Seat 09: the plain laws, third part: what machines ask, timers that run out. -/
import Derived.Test.YtcfdoigiopdnmaaAb09d
set_option maxRecDepth 100000
set_option maxHeartbeats 1000000
set_option linter.unusedVariables false
set_option linter.unusedSimpArgs false
namespace Ab09
open Go Ab

/-! ### Alike -/
def differs (M : List S1) (j : Nat) (p : S1) : Bool := match M[j]? with
  | some q => !(eqS1 p q)
  | none => false
theorem rows_eq {L M : List S1} (hl : L.length ≤ 1000) (he : L.length = M.length) : g40 L M = some (none_ (differs M) L) := by
  have loop : ∀ v : W40_0, v.a0 = L → v.a1 = M → v.a3 = L.length → v.a4 = 0 → iter gR40_0 1000000 v = some ((firstP (fun j => match L[j]? with | some p => bif differs M j p then some (true, { v with a2 := false, a4 := (j : Int) }) else none | none => none) L.length 0).getD (false, { v with a4 := (L.length : Int) })) := by
    intro v h0 h1 h3 h4
    refine iter_find0 (fun j => { v with a4 := (j : Int) }) L.length _ (fun j hj => ?_) (o := (false, { v with a4 := (L.length : Int) })) (n := 1000000) ?_ (by omega) ?_
    · have hp : L[j]? = some L[j] := List.getElem?_eq_getElem hj
      have hq : M[j]? = some (M[j]'(by omega)) := List.getElem?_eq_getElem (by omega)
      simp only [gR40_0, h0, h1, h3, get_br, decide_eq_true (show (j : Int) < (L.length : Int) by omega), decide_eq_true (show (0 : Int) ≤ (j : Int) by omega), cond_true, Int.toNat_natCast, hp, hq, get_optS, get_leaf, i64_nat (j := j) (by omega)]
      unfold differs
      rw [hq]
      simp only
      cases (!(eqS1 L[j] (M[j]'(by omega)))) <;> rfl
    · simp only [gR40_0, h3, get_br, Int.lt_irrefl, decide_false, cond_false, get_leaf]
    · cases v; simp at h4; simp [h4]
  have hne : ((L.length : Int) != (M.length : Int)) = false := by rw [he]; simp
  simp only [g40, g40T, hne, get_br, cond_false]
  rw [get_opt, loop _ rfl rfl rfl rfl]
  simp only [Option.bind_some, get_br, get_leaf]
  have hb : ∀ r : Bool × W40_0, (bif r.1 then some r.2.a2 else some true) = some (bif r.1 then r.2.a2 else true) := by intro r; cases r.1 <;> rfl
  rw [hb]
  exact congrArg some (test_loop (bad := differs M) (L := L) (f := fun r : Bool × W40_0 => bif r.1 then r.2.a2 else true) (fun j => rfl) (fun j => rfl) rfl)

theorem alike_eq {x y : S7} (hx : x.f16.length ≤ 1000) : ∃ b, g28 x y = some b ∧ g9 x y = some b := by
  simp only [g28, g28T, g9, g9T, get_br]
  by_cases he : x.f16.length = y.f16.length
  · have hne : ((x.f16.length : Int) != (y.f16.length : Int)) = false := by rw [he]; simp
    have loop : ∀ v : W9_0, v.a18 = x.f16 → v.a35 = y.f16 → v.a1 = 0 → iter gR9_0 1000000 v = some ((firstP (fun j => match x.f16[j]? with | some p => bif differs y.f16 j p then some (true, { v with a0 := false, a1 := (j : Int) }) else none | none => none) x.f16.length 0).getD (false, { v with a1 := (x.f16.length : Int) })) := by
      intro v h18 h35 h1
      refine iter_find0 (fun j => { v with a1 := (j : Int) }) x.f16.length _ (fun j hj => ?_) (o := (false, { v with a1 := (x.f16.length : Int) })) (n := 1000000) ?_ (by omega) ?_
      · have hp : x.f16[j]? = some x.f16[j] := List.getElem?_eq_getElem hj
        have hq : y.f16[j]? = some (y.f16[j]'(by omega)) := List.getElem?_eq_getElem (by omega)
        simp only [gR9_0, h18, h35, get_br, decide_eq_true (show (j : Int) < (x.f16.length : Int) by omega), decide_eq_true (show (0 : Int) ≤ (j : Int) by omega), cond_true, Int.toNat_natCast, hp, hq, get_optS, get_leaf, i64_nat (j := j) (by omega)]
        unfold differs
        rw [hq]
        simp only
        cases (!(eqS1 x.f16[j] (y.f16[j]'(by omega)))) <;> rfl
      · simp only [gR9_0, h18, get_br, Int.lt_irrefl, decide_false, cond_false, get_leaf]
      · cases v; simp at h1; simp [h1]
    have hb : ∀ r : Bool × W9_0, (bif r.1 then some r.2.a0 else some true) = some (bif r.1 then r.2.a0 else true) := by intro r; cases r.1 <;> rfl
    have loopN : ∀ v : W9_0, v.a18 = x.f16 → v.a35 = y.f16 → v.a1 = 0 → ((iter gR9_0 1000000 v).bind fun z => some (bif z.1 then z.2.a0 else true)) = some (none_ (differs y.f16) x.f16) := by
      intro v h18 h35 h1
      rw [loop v h18 h35 h1]
      exact congrArg some (test_loop (bad := differs y.f16) (L := x.f16) (f := fun r : Bool × W9_0 => bif r.1 then r.2.a0 else true) (fun j => rfl) (fun j => rfl) rfl)
    simp only [get_opt, rows_eq hx he, Option.bind_some, get_br, get_leaf, hb, hne, loopN]
    generalize none_ (differs y.f16) x.f16 = N
    simp only [bne]
    refine ⟨(bif (bif (bif (bif (bif (bif (bif (x.f0 == y.f0) then (eqS4 (S4.mk x.f1 x.f2 x.f3 x.f4) (S4.mk y.f1 y.f2 y.f3 y.f4)) else false) then (x.f5 == y.f5) else false) then (x.f6 == y.f6) else false) then (x.f7 == y.f7) else false) then (eqS6 (S6.mk x.f8 x.f9 x.f10 x.f11) (S6.mk y.f8 y.f9 y.f10 y.f11)) else false) then (eqS4 (S4.mk x.f12 x.f13 x.f14 x.f15) (S4.mk y.f12 y.f13 y.f14 y.f15)) else false) then N else false), ?_, ?_⟩
    · cases (bif (bif (bif (bif (bif (bif (x.f0 == y.f0) then (eqS4 (S4.mk x.f1 x.f2 x.f3 x.f4) (S4.mk y.f1 y.f2 y.f3 y.f4)) else false) then (x.f5 == y.f5) else false) then (x.f6 == y.f6) else false) then (x.f7 == y.f7) else false) then (eqS6 (S6.mk x.f8 x.f9 x.f10 x.f11) (S6.mk y.f8 y.f9 y.f10 y.f11)) else false) then (eqS4 (S4.mk x.f12 x.f13 x.f14 x.f15) (S4.mk y.f12 y.f13 y.f14 y.f15)) else false) <;> rfl
    · cases (x.f0 == y.f0) <;> cases eqS4 (S4.mk x.f1 x.f2 x.f3 x.f4) (S4.mk y.f1 y.f2 y.f3 y.f4) <;> cases (x.f5 == y.f5) <;> cases (x.f6 == y.f6) <;> cases (x.f7 == y.f7) <;> cases eqS6 (S6.mk x.f8 x.f9 x.f10 x.f11) (S6.mk y.f8 y.f9 y.f10 y.f11) <;> cases eqS4 (S4.mk x.f12 x.f13 x.f14 x.f15) (S4.mk y.f12 y.f13 y.f14 y.f15) <;> rfl
  · have hne : ((x.f16.length : Int) != (y.f16.length : Int)) = true := by simp; omega
    refine ⟨false, ?_, ?_⟩
    · have : g40 x.f16 y.f16 = some false := by simp only [g40, g40T, hne, get_br, cond_true, get_leaf]
      simp only [this, get_optS, get_leaf]
      cases (bif (bif (bif (bif (bif (bif (x.f0 == y.f0) then (eqS4 (S4.mk x.f1 x.f2 x.f3 x.f4) (S4.mk y.f1 y.f2 y.f3 y.f4)) else false) then (x.f5 == y.f5) else false) then (x.f6 == y.f6) else false) then (x.f7 == y.f7) else false) then (eqS6 (S6.mk x.f8 x.f9 x.f10 x.f11) (S6.mk y.f8 y.f9 y.f10 y.f11)) else false) then (eqS4 (S4.mk x.f12 x.f13 x.f14 x.f15) (S4.mk y.f12 y.f13 y.f14 y.f15)) else false) <;> rfl
    · rw [hne]
      cases (bif (bif (bif (bif (bif (bif (x.f0 != y.f0) then true else (!(eqS4 (S4.mk x.f1 x.f2 x.f3 x.f4) (S4.mk y.f1 y.f2 y.f3 y.f4)))) then true else (x.f5 != y.f5)) then true else (!(x.f6 == y.f6))) then true else (x.f7 != y.f7)) then true else (!(eqS6 (S6.mk x.f8 x.f9 x.f10 x.f11) (S6.mk y.f8 y.f9 y.f10 y.f11)))) then true else (!(eqS4 (S4.mk x.f12 x.f13 x.f14 x.f15) (S4.mk y.f12 y.f13 y.f14 y.f15)))) <;> rfl

theorem law6 (x z : S7) (n : Int) : g6 x z n = some true := by
  obtain ⟨y, hy, hl⟩ := few_ok x
  obtain ⟨y', hy', hl'⟩ := few_ok z
  have hl1 : y.f16.length ≤ 1000 := by omega
  have loop : ∀ v : W6_0, v.a2 = 0 → v.a19 = y.f16 → iter gR6_0 1000000 v = some (false, { v with a2 := (y.f16.length : Int) }) := by
    intro v h2 h19
    refine iter_all (fun j => { v with a2 := (j : Int) }) y.f16.length (fun j hj => ?_) (o := (false, { v with a2 := (y.f16.length : Int) })) (n := 1000000) ?_ (by omega) ?_
    · have hp : y.f16[j]? = some y.f16[j] := List.getElem?_eq_getElem hj
      have e : ∀ p, g22 p = g23 p := fun _ => rfl
      simp only [gR6_0, h19, get_br, decide_eq_true (show (j : Int) < (y.f16.length : Int) by omega), decide_eq_true (show (0 : Int) ≤ (j : Int) by omega), cond_true, Int.toNat_natCast, hp, get_optS, get_leaf, i64_nat (j := j) (by omega), e, bne_self_eq_false, cond_false]
    · simp only [gR6_0, h19, get_br, Int.lt_irrefl, decide_false, cond_false, get_leaf]
    · cases v; simp at h2; simp [h2]
  obtain ⟨b, h28, h9⟩ := alike_eq (x := y) (y := y') hl1
  have hs : g28 y y = some true := by
    obtain ⟨b, k28, k9⟩ := alike_eq (x := y) (y := y) hl1
    rw [same_self y hl1] at k9
    rw [k28]; exact k9.symm
  have ey : ∀ w : S7, S7.mk w.f0 w.f1 w.f2 w.f3 w.f4 w.f5 w.f6 w.f7 w.f8 w.f9 w.f10 w.f11 w.f12 w.f13 w.f14 w.f15 w.f16 = w := fun _ => rfl
  simp only [g6, g6T, hy, hy', get_optS]
  rw [get_opt, loop _ rfl rfl]
  simp only [Option.bind_some, get_br, cond_false, ey, all_eq hl1, all_eq' hl1, ree_eq hl1, ree_eq' hl1, get_optS, beq_self_eq_true, cond_true, h28, h9, hs, awake_true, get_leaf]
end Ab09
