/- Seat 13: the plain laws, first part: trees, loops. -/
import Derived.Test.YtinfcoabfdegcaaAb13b
import Derived.Test.YtinfcoabfdegcaaAbList
import Derived.Test.YtinfcoabfdegcaaAbArith
import Derived.Test.YtinfcoabfdegcaaAbFld
set_option maxRecDepth 100000
set_option maxHeartbeats 1000000
set_option linter.unusedVariables false
set_option linter.unusedSimpArgs false
namespace Ab13
open Go Ab

theorem awake_true : g12 = some true := by kernel_rfl
theorem eqS0_self (p : S0) : eqS0 p p = true := by simp only [eqS0, beq_self_eq_true, Bool.and_self]

def wth (x : S6) (n : Int) (p : S0) : S6 := { x with f16 := x.f16.set n.toNat p }
def In (x : S6) (n : Int) : Prop := 0 ≤ n ∧ n < x.f16.length

theorem same_self (x : S6) (hl : x.f16.length ≤ 1000) : g11 x x = some true := by
  have e4 : ∀ p, eqS4 p p = true := fun p => by simp only [eqS4, beq_self_eq_true, Bool.and_self]
  have e5 : ∀ p, eqS5 p p = true := fun p => by simp only [eqS5, beq_self_eq_true, Bool.and_self]
  simp only [g11, g11T, get_br, bne_self_eq_false, beq_self_eq_true, e4, e5, Bool.not_true, cond_false, get_opt]
  have : ∀ v : W11_0, v.a18 = x.f16 → v.a35 = x.f16 → v.a1 = 0 → iter gR11_0 1000000 v = some (false, { v with a1 := (x.f16.length : Int) }) := by
    intro v h1 h2 h3
    refine iter_all (fun j => { v with a1 := (j : Int) }) x.f16.length (fun j hj => ?_) (o := (false, { v with a1 := (x.f16.length : Int) })) (n := 1000000) ?_ (by omega) ?_
    · have hp : x.f16[j]? = some x.f16[j] := List.getElem?_eq_getElem hj
      simp only [gR11_0, h1, h2, get_br, decide_eq_true (show (j : Int) < (x.f16.length : Int) by omega), decide_eq_true (show (0 : Int) ≤ (j : Int) by omega), cond_true, Int.toNat_natCast, hp, get_optS, eqS0_self, Bool.not_true, cond_false, get_leaf, i64_nat (j := j) (by omega)]
    · simp only [gR11_0, h1, get_br, Int.lt_irrefl, decide_false, cond_false, get_leaf]
    · cases v; simp at h3; simp [h3]
  rw [this _ rfl rfl rfl]
  simp only [Option.bind_some, get_br, cond_false, get_leaf]

theorem few_ok (x : S6) : ∃ y, g8 x = some y ∧ y.f16.length ≤ 10 := by
  simp only [g8, g8T, get_br]
  have hm : mnI (x.f16.length : Int) 10 = ((min x.f16.length 10 : Nat) : Int) := by unfold mnI; split <;> omega
  rw [hm, Int.toNat_natCast]
  have hl : (List.take (min x.f16.length 10) x.f16).length = min x.f16.length 10 := by simp
  rw [decide_eq_true (show (0 : Int) ≤ ((min x.f16.length 10 : Nat) : Int) by omega), decide_eq_true (show ((min x.f16.length 10 : Nat) : Int) ≤ (x.f16.length : Int) by omega)]
  simp only [Bool.and_self, cond_true, room_small (show 248 ≤ 1000000 by omega) (show 0 + (List.take (min x.f16.length 10) x.f16).length ≤ 1000 by omega)]
  cases (List.take (min x.f16.length 10) x.f16).isEmpty
  · refine ⟨_, rfl, by show (List.take (min x.f16.length 10) x.f16).length ≤ 10; omega⟩
  · exact ⟨_, rfl, by simp⟩

theorem copy_eq {x : S6} (hl : x.f16.length ≤ 1000) : g35 x = some x := by
  simp only [g35, g35T, get_br, room_small (show 248 ≤ 1000000 by omega) (show 0 + x.f16.length ≤ 1000 by omega), get_leaf, cond_true]
  cases he : x.f16.isEmpty
  · rfl
  · rw [List.isEmpty_iff] at he
    cases x; simp at he; simp [he]
theorem copy_eq' {x : S6} (hl : x.f16.length ≤ 1000) : g54 x = some x := by
  simp only [g54, g54T, get_br, clone_small (c := 0) x.f16 (show 248 ≤ 1000000 by omega) hl, Bool.or_true, get_leaf, cond_true]

theorem inq {x : S6} {n : Int} : g13 x n = (decide (n ≥ 0) && decide (n < x.f16.length)) := by
  simp only [g13, g13T, gett_leaf, and_cond]
theorem In.q {x : S6} {n : Int} (h : In x n) : g13 x n = true := by rw [inq, decide_eq_true h.1, decide_eq_true h.2]; rfl
theorem out_q {x : S6} {n : Int} (h : ¬ In x n) : g13 x n = false := by
  rw [inq]; unfold In at h
  by_cases a : n ≥ 0
  · rw [decide_eq_true a, decide_eq_false (by omega)]; rfl
  · rw [decide_eq_false a]; rfl
theorem In.at {x : S6} {n : Int} (h : In x n) : ∃ p, x.f16[n.toNat]? = some p ∧ p ∈ x.f16 := by
  have : n.toNat < x.f16.length := by unfold In at h; omega
  exact ⟨x.f16[n.toNat], List.getElem?_eq_getElem this, List.getElem_mem this⟩
theorem wth_len (x : S6) (n : Int) (p : S0) : (wth x n p).f16.length = x.f16.length := by simp [wth]
theorem wth_in {x : S6} {n : Int} (p : S0) (h : In x n) : In (wth x n p) n := by unfold In at *; rw [wth_len]; exact h
theorem wth_at {x : S6} {n : Int} (p : S0) (h : In x n) : (wth x n p).f16[n.toNat]? = some p := by
  unfold wth; unfold In at h
  show (x.f16.set n.toNat p)[n.toNat]? = some p
  rw [List.getElem?_set, if_pos rfl, if_pos (by omega)]
theorem wth_self {x : S6} {n : Int} {p : S0} (h : x.f16[n.toNat]? = some p) : wth x n p = x := by
  unfold wth; rw [set_self h]
theorem with_eq {x : S6} {n : Int} (h : In x n) (hl : x.f16.length ≤ 1000) (p : S0) : g15 x n p = some (wth x n p) := by
  obtain ⟨q, hq, _⟩ := h.at
  simp only [g15, g15T, copy_eq hl, get_optS, get_br, cond_true, decide_eq_true h.1, decide_eq_true h.2, Bool.and_self, hq, get_leaf]
  rfl

/-! ### All ports -/
def pt20 (_ : Nat) (p : S0) : S0 := { p with f20 := true }
def pt24 (_ : Nat) (p : S0) : S0 := { p with f24 := true }
def all20 (x : S6) : S6 := { x with f16 := x.f16.mapIdx pt20 }
def all24 (x : S6) : S6 := { x with f16 := x.f16.mapIdx pt24 }
theorem re_eq {x : S6} (hl : x.f16.length ≤ 1000) : g48 x = some (all20 x) := by
  have loop : ∀ {v : W48_0} {L : List S0}, L.length ≤ 1000 → v.a0 = 0 → v.a33 = L → iter gR48_0 1000000 v = some (false, { v with a0 := (L.length : Int), a33 := L.mapIdx pt20 }) := by
    intro v L hl h0 h33
    refine iter_all (fun j => { v with a0 := (j : Int), a33 := mapT pt20 j L }) L.length (fun j hj => ?_) (o := (false, { v with a0 := (L.length : Int), a33 := L.mapIdx pt20 })) (n := 1000000) ?_ (by omega) ?_
    · have hp : L[j]? = some L[j] := List.getElem?_eq_getElem hj
      have hs : ∀ p : S0, ({ p with f20 := true } : S0) = pt20 j p := fun _ => rfl
      simp only [gR48_0, get_br, mapT_len, mapT_at _ hp, hs, decide_eq_true (show (j : Int) < (L.length : Int) by omega), decide_eq_true (show (0 : Int) ≤ (j : Int) by omega), cond_true, Bool.and_self, Int.toNat_natCast, get_optS, get_leaf, i64_nat (j := j) (by omega), mapT_step _ hp]
    · simp only [gR48_0, get_br, mapT_all, List.length_mapIdx, Int.lt_irrefl, decide_false, cond_false, get_leaf]
    · cases v; simp at h0 h33; simp [h0, h33, mapT_zero]
  simp only [g48, g48T, copy_eq hl, get_optS]
  rw [get_opt, loop hl rfl rfl]
  simp only [Option.bind_some, get_br, cond_false, get_leaf]
  rfl
theorem re_eq' {x : S6} (hl : x.f16.length ≤ 1000) : g42 x = some (all20 x) := by
  have loop : ∀ {v : W42_0} {L : List S0}, L.length ≤ 1000 → v.a0 = L.length → v.a1 = 0 → v.a34 = L → iter gR42_0 1000000 v = some (false, { v with a1 := (L.length : Int), a34 := L.mapIdx pt20 }) := by
    intro v L hl h0 h1 h34
    refine iter_all (fun j => { v with a1 := (j : Int), a34 := mapT pt20 j L }) L.length (fun j hj => ?_) (o := (false, { v with a1 := (L.length : Int), a34 := L.mapIdx pt20 })) (n := 1000000) ?_ (by omega) ?_
    · have hp : L[j]? = some L[j] := List.getElem?_eq_getElem hj
      have hs : ∀ p : S0, ({ p with f20 := true } : S0) = pt20 j p := fun _ => rfl
      simp only [gR42_0, get_br, h0, mapT_len, mapT_at _ hp, hs, decide_eq_true (show (j : Int) < (L.length : Int) by omega), decide_eq_true (show (0 : Int) ≤ (j : Int) by omega), cond_true, Bool.and_self, Int.toNat_natCast, get_optS, get_leaf, i64_nat (j := j) (by omega), mapT_step _ hp]
    · simp only [gR42_0, get_br, h0, mapT_all, Int.lt_irrefl, decide_false, cond_false, get_leaf]
    · cases v; simp at h1 h34; simp [h1, h34, mapT_zero]
  simp only [g42, g42T, copy_eq' hl, get_optS]
  rw [get_opt, loop hl rfl rfl rfl]
  simp only [Option.bind_some, get_br, cond_false, get_leaf]
  rfl
theorem sync_eq {x : S6} (hl : x.f16.length ≤ 1000) : g55 x = some (all24 x) := by
  have loop : ∀ {v : W55_0} {L : List S0}, L.length ≤ 1000 → v.a0 = 0 → v.a33 = L → iter gR55_0 1000000 v = some (false, { v with a0 := (L.length : Int), a33 := L.mapIdx pt24 }) := by
    intro v L hl h0 h33
    refine iter_all (fun j => { v with a0 := (j : Int), a33 := mapT pt24 j L }) L.length (fun j hj => ?_) (o := (false, { v with a0 := (L.length : Int), a33 := L.mapIdx pt24 })) (n := 1000000) ?_ (by omega) ?_
    · have hp : L[j]? = some L[j] := List.getElem?_eq_getElem hj
      have hs : ∀ p : S0, ({ p with f24 := true } : S0) = pt24 j p := fun _ => rfl
      simp only [gR55_0, get_br, mapT_len, mapT_at _ hp, hs, decide_eq_true (show (j : Int) < (L.length : Int) by omega), decide_eq_true (show (0 : Int) ≤ (j : Int) by omega), cond_true, Bool.and_self, Int.toNat_natCast, get_optS, get_leaf, i64_nat (j := j) (by omega), mapT_step _ hp]
    · simp only [gR55_0, get_br, mapT_all, List.length_mapIdx, Int.lt_irrefl, decide_false, cond_false, get_leaf]
    · cases v; simp at h0 h33; simp [h0, h33, mapT_zero]
  simp only [g55, g55T, copy_eq hl, get_optS]
  rw [get_opt, loop hl rfl rfl]
  simp only [Option.bind_some, get_br, cond_false, get_leaf]
  rfl
theorem sync_eq' {x : S6} (hl : x.f16.length ≤ 1000) : g52 x = some (all24 x) := by
  have loop : ∀ {v : W52_0} {L : List S0}, L.length ≤ 1000 → v.a0 = L.length → v.a1 = 0 → v.a34 = L → iter gR52_0 1000000 v = some (false, { v with a1 := (L.length : Int), a34 := L.mapIdx pt24 }) := by
    intro v L hl h0 h1 h34
    refine iter_all (fun j => { v with a1 := (j : Int), a34 := mapT pt24 j L }) L.length (fun j hj => ?_) (o := (false, { v with a1 := (L.length : Int), a34 := L.mapIdx pt24 })) (n := 1000000) ?_ (by omega) ?_
    · have hp : L[j]? = some L[j] := List.getElem?_eq_getElem hj
      have hs : ∀ p : S0, ({ p with f24 := true } : S0) = pt24 j p := fun _ => rfl
      simp only [gR52_0, get_br, h0, mapT_len, mapT_at _ hp, hs, decide_eq_true (show (j : Int) < (L.length : Int) by omega), decide_eq_true (show (0 : Int) ≤ (j : Int) by omega), cond_true, Bool.and_self, Int.toNat_natCast, get_optS, get_leaf, i64_nat (j := j) (by omega), mapT_step _ hp]
    · simp only [gR52_0, get_br, h0, mapT_all, Int.lt_irrefl, decide_false, cond_false, get_leaf]
    · cases v; simp at h1 h34; simp [h1, h34, mapT_zero]
  simp only [g52, g52T, copy_eq' hl, get_optS]
  rw [get_opt, loop hl rfl rfl rfl]
  simp only [Option.bind_some, get_br, cond_false, get_leaf]
  rfl

/-! ### Tests of all ports -/
/-- No port is bad. -/
def none_ (bad : Nat → S0 → Bool) (L : List S0) : Bool := (firstP (fun j => match L[j]? with | some p => bif bad j p then some () else none | none => none) L.length 0).isNone
theorem test_loop {V : Type} {p : Nat → Option (Bool × V)} {o : Bool × V} {f : Bool × V → Bool} {L : List S0} {bad : Nat → S0 → Bool} {w : Nat → V}
    (hp : ∀ j, p j = match L[j]? with | some q => bif bad j q then some (true, w j) else none | none => none) (hf : ∀ j, f (true, w j) = false) (ho : f o = true) :
    f ((firstP p L.length 0).getD o) = none_ bad L := by
  unfold none_
  have hc := firstP_congr (p := p) (q := fun j => match L[j]? with | some p => bif bad j p then some () else none | none => none) (f := fun _ => ()) (k := L.length) (j := 0) (fun i _ _ => by
    show (match L[i]? with | some p => bif bad i p then some () else none | none => none) = _
    rw [hp i]
    cases L[i]? with
    | none => rfl
    | some q => simp only; cases bad i q <;> rfl)
  rw [hc]
  cases h : firstP p L.length 0 with
  | none => simp only [Option.getD_none, ho, Option.map_none, Option.isNone_none]
  | some a =>
    obtain ⟨q, _, _, hq, _⟩ := firstP_some h
    rw [hp q] at hq
    have : ∃ j, a = (true, w j) := by
      revert hq
      cases L[q]? with
      | none => intro h; cases h
      | some r =>
        simp only
        cases bad q r
        · intro h; cases h
        · intro h; simp only [cond_true, Option.some.injEq] at h; exact ⟨q, h.symm⟩
    obtain ⟨j, rfl⟩ := this
    simp only [Option.getD_some, hf, Option.map_some, Option.isNone_some]

def notSyn (n : Int) (j : Nat) (p : S0) : Bool := bif (bif (bif (!p.f22) then true else p.f28) then true else (p.f30 != p.f31)) then true else (bif (bif ((j : Int) != n) then (!p.f25) else false) then (p.f30 != 3) else false)
def notRe (n : Int) (j : Nat) (p : S0) : Bool := bif ((j : Int) != n) then (p.f70 != 0) else false

theorem all_eq {x : S6} {n : Int} (hl : x.f16.length ≤ 1000) : g14 x n = some (none_ (notSyn n) x.f16) := by
  have loop : ∀ v : W14_0, v.a0 = n → v.a2 = 0 → v.a19 = x.f16 → iter gR14_0 1000000 v = some ((firstP (fun j => match x.f16[j]? with | some p => bif notSyn n j p then some (true, { v with a1 := false, a2 := (j : Int) }) else none | none => none) x.f16.length 0).getD (false, { v with a2 := (x.f16.length : Int) })) := by
    intro v h0 h2 h19
    refine iter_find0 (fun j => { v with a2 := (j : Int) }) x.f16.length _ (fun j hj => ?_) (o := (false, { v with a2 := (x.f16.length : Int) })) (n := 1000000) ?_ (by omega) ?_
    · have hp : x.f16[j]? = some x.f16[j] := List.getElem?_eq_getElem hj
      simp only [gR14_0, h0, h19, get_br, decide_eq_true (show (j : Int) < (x.f16.length : Int) by omega), decide_eq_true (show (0 : Int) ≤ (j : Int) by omega), cond_true, Int.toNat_natCast, hp, get_optS, get_leaf, i64_nat (j := j) (by omega)]
      unfold notSyn
      cases (bif (bif (bif (!x.f16[j].f22) then true else x.f16[j].f28) then true else (x.f16[j].f30 != x.f16[j].f31)) then true else (bif (bif ((j : Int) != n) then (!x.f16[j].f25) else false) then (x.f16[j].f30 != 3) else false)) <;> rfl
    · simp only [gR14_0, h19, get_br, Int.lt_irrefl, decide_false, cond_false, get_leaf]
    · cases v; simp at h2; simp [h2]
  simp only [g14, g14T]
  rw [get_opt, loop _ rfl rfl rfl]
  simp only [Option.bind_some, get_br, get_leaf]
  have hb : ∀ r : Bool × W14_0, (bif r.1 then some r.2.a1 else some true) = some (bif r.1 then r.2.a1 else true) := by intro r; cases r.1 <;> rfl
  rw [hb]
  exact congrArg some (test_loop (bad := notSyn n) (L := x.f16) (f := fun r : Bool × W14_0 => bif r.1 then r.2.a1 else true) (fun j => rfl) (fun j => rfl) rfl)
theorem all_eq' {x : S6} {n : Int} (hl : x.f16.length ≤ 1000) : g53 x n = some (none_ (notSyn n) x.f16) := by
  have loop : ∀ v : W53_0, v.a0 = n → v.a2 = x.f16 → v.a3 = x.f16.length → v.a4 = 0 → iter gR53_0 1000000 v = some ((firstP (fun j => match x.f16[j]? with | some p => bif notSyn n j p then some (true, { v with a1 := false, a4 := (j : Int) }) else none | none => none) x.f16.length 0).getD (false, { v with a4 := (x.f16.length : Int) })) := by
    intro v h0 h2 h3 h4
    refine iter_find0 (fun j => { v with a4 := (j : Int) }) x.f16.length _ (fun j hj => ?_) (o := (false, { v with a4 := (x.f16.length : Int) })) (n := 1000000) ?_ (by omega) ?_
    · have hp : x.f16[j]? = some x.f16[j] := List.getElem?_eq_getElem hj
      simp only [gR53_0, h0, h2, h3, get_br, decide_eq_true (show (j : Int) < (x.f16.length : Int) by omega), decide_eq_true (show (0 : Int) ≤ (j : Int) by omega), cond_true, Int.toNat_natCast, hp, get_optS, get_leaf, i64_nat (j := j) (by omega)]
      unfold notSyn
      cases (bif (bif (!x.f16[j].f22) then true else x.f16[j].f28) then true else (x.f16[j].f30 != x.f16[j].f31))
      · cases (bif (bif ((j : Int) != n) then (!x.f16[j].f25) else false) then (x.f16[j].f30 != 3) else false) <;> rfl
      · rfl
    · simp only [gR53_0, h3, get_br, Int.lt_irrefl, decide_false, cond_false, get_leaf]
    · cases v; simp at h4; simp [h4]
  simp only [g53, g53T]
  rw [get_opt, loop _ rfl rfl rfl rfl]
  simp only [Option.bind_some, get_br, get_leaf]
  have hb : ∀ r : Bool × W53_0, (bif r.1 then some r.2.a1 else some true) = some (bif r.1 then r.2.a1 else true) := by intro r; cases r.1 <;> rfl
  rw [hb]
  exact congrArg some (test_loop (bad := notSyn n) (L := x.f16) (f := fun r : Bool × W53_0 => bif r.1 then r.2.a1 else true) (fun j => rfl) (fun j => rfl) rfl)
theorem ree_eq {x : S6} {n : Int} (hl : x.f16.length ≤ 1000) : g47 x n = some (none_ (notRe n) x.f16) := by
  have loop : ∀ v : W47_0, v.a0 = n → v.a2 = 0 → v.a19 = x.f16 → iter gR47_0 1000000 v = some ((firstP (fun j => match x.f16[j]? with | some p => bif notRe n j p then some (true, { v with a1 := false, a2 := (j : Int) }) else none | none => none) x.f16.length 0).getD (false, { v with a2 := (x.f16.length : Int) })) := by
    intro v h0 h2 h19
    refine iter_find0 (fun j => { v with a2 := (j : Int) }) x.f16.length _ (fun j hj => ?_) (o := (false, { v with a2 := (x.f16.length : Int) })) (n := 1000000) ?_ (by omega) ?_
    · have hp : x.f16[j]? = some x.f16[j] := List.getElem?_eq_getElem hj
      simp only [gR47_0, h0, h19, get_br, decide_eq_true (show (j : Int) < (x.f16.length : Int) by omega), decide_eq_true (show (0 : Int) ≤ (j : Int) by omega), cond_true, Int.toNat_natCast, hp, get_optS, get_leaf, i64_nat (j := j) (by omega)]
      unfold notRe
      cases ((j : Int) != n)
      · rfl
      · cases (x.f16[j].f70 != 0) <;> rfl
    · simp only [gR47_0, h19, get_br, Int.lt_irrefl, decide_false, cond_false, get_leaf]
    · cases v; simp at h2; simp [h2]
  simp only [g47, g47T]
  rw [get_opt, loop _ rfl rfl rfl]
  simp only [Option.bind_some, get_br, get_leaf]
  have hb : ∀ r : Bool × W47_0, (bif r.1 then some r.2.a1 else some true) = some (bif r.1 then r.2.a1 else true) := by intro r; cases r.1 <;> rfl
  rw [hb]
  exact congrArg some (test_loop (bad := notRe n) (L := x.f16) (f := fun r : Bool × W47_0 => bif r.1 then r.2.a1 else true) (fun j => rfl) (fun j => rfl) rfl)
theorem ree_eq' {x : S6} {n : Int} (hl : x.f16.length ≤ 1000) : g40 x n = some (none_ (notRe n) x.f16) := by
  have loop : ∀ v : W40_0, v.a0 = n → v.a2 = x.f16 → v.a3 = x.f16.length → v.a4 = 0 → iter gR40_0 1000000 v = some ((firstP (fun j => match x.f16[j]? with | some p => bif notRe n j p then some (true, { v with a1 := false, a4 := (j : Int) }) else none | none => none) x.f16.length 0).getD (false, { v with a4 := (x.f16.length : Int) })) := by
    intro v h0 h2 h3 h4
    refine iter_find0 (fun j => { v with a4 := (j : Int) }) x.f16.length _ (fun j hj => ?_) (o := (false, { v with a4 := (x.f16.length : Int) })) (n := 1000000) ?_ (by omega) ?_
    · have hp : x.f16[j]? = some x.f16[j] := List.getElem?_eq_getElem hj
      simp only [gR40_0, h0, h2, h3, get_br, decide_eq_true (show (j : Int) < (x.f16.length : Int) by omega), decide_eq_true (show (0 : Int) ≤ (j : Int) by omega), cond_true, Int.toNat_natCast, hp, get_optS, get_leaf, i64_nat (j := j) (by omega)]
      unfold notRe
      cases (bif ((j : Int) != n) then (x.f16[j].f70 != 0) else false) <;> rfl
    · simp only [gR40_0, h3, get_br, Int.lt_irrefl, decide_false, cond_false, get_leaf]
    · cases v; simp at h4; simp [h4]
  simp only [g40, g40T]
  rw [get_opt, loop _ rfl rfl rfl rfl]
  simp only [Option.bind_some, get_br, get_leaf]
  have hb : ∀ r : Bool × W40_0, (bif r.1 then some r.2.a1 else some true) = some (bif r.1 then r.2.a1 else true) := by intro r; cases r.1 <;> rfl
  rw [hb]
  exact congrArg some (test_loop (bad := notRe n) (L := x.f16) (f := fun r : Bool × W40_0 => bif r.1 then r.2.a1 else true) (fun j => rfl) (fun j => rfl) rfl)
end Ab13
