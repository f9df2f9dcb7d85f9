/- Seat 11: the plain laws, second part: steps, hearing. -/
import Derived.Test.YtpmemjjfabfleaaAb11c
set_option maxRecDepth 100000
set_option maxHeartbeats 1000000
set_option linter.unusedVariables false
set_option linter.unusedSimpArgs false
namespace Ab11
open Go Ab

def Tok (x : S7) : Prop := ∀ p ∈ x.f16, Pok p
theorem tok_of {x : S7} (h : All2 (CK.has kd) ks7 (enc7 x)) : Tok x := fun p hp => pok_of ((fldMR h 16 rfl rfl).2 p hp)

def wth (x : S7) (n : Int) (p : S0) : S7 := { x with f16 := x.f16.set n.toNat p }
def In (x : S7) (n : Int) : Prop := 0 ≤ n ∧ n < x.f16.length

theorem same_self (x : S7) (hl : x.f16.length ≤ 1000) : g10 x x = some true := by
  simp only [g10, g10T, get_br, bne_self_eq_false, beq_self_eq_true, eqS5_self, eqS6_self, Bool.not_true, cond_false, get_opt]
  have : ∀ v : W10_0, v.a18 = x.f16 → v.a35 = x.f16 → v.a1 = 0 → iter gR10_0 1000000 v = some (false, { v with a1 := (x.f16.length : Int) }) := by
    intro v h1 h2 h3
    refine iter_all (fun j => { v with a1 := (j : Int) }) x.f16.length (fun j hj => ?_) (o := (false, { v with a1 := (x.f16.length : Int) })) (n := 1000000) ?_ (by omega) ?_
    · have hp : x.f16[j]? = some x.f16[j] := List.getElem?_eq_getElem hj
      simp only [gR10_0, h1, h2, get_br, decide_eq_true (show (j : Int) < (x.f16.length : Int) by omega), decide_eq_true (show (0 : Int) ≤ (j : Int) by omega), cond_true, Int.toNat_natCast, hp, get_optS, eqS0_self, Bool.not_true, cond_false, get_leaf, i64_nat (j := j) (by omega)]
    · simp only [gR10_0, h1, get_br, Int.lt_irrefl, decide_false, cond_false, get_leaf]
    · cases v; simp at h3; simp [h3]
  rw [this _ rfl rfl rfl]
  simp only [Option.bind_some, get_br, cond_false, get_leaf]

theorem few_ok (x : S7) : ∃ y, g7 x = some y ∧ y.f16.length ≤ 10 ∧ (Tok x → Tok y) := by
  simp only [g7, g7T, get_br]
  have hm : mnI (x.f16.length : Int) 10 = ((min x.f16.length 10 : Nat) : Int) := by unfold mnI; split <;> omega
  rw [hm, Int.toNat_natCast]
  have hl : (List.take (min x.f16.length 10) x.f16).length = min x.f16.length 10 := by simp
  rw [decide_eq_true (show (0 : Int) ≤ ((min x.f16.length 10 : Nat) : Int) by omega), decide_eq_true (show ((min x.f16.length 10 : Nat) : Int) ≤ (x.f16.length : Int) by omega)]
  simp only [Bool.and_self, cond_true, room_small (show 248 ≤ 1000000 by omega) (show 0 + (List.take (min x.f16.length 10) x.f16).length ≤ 1000 by omega)]
  cases (List.take (min x.f16.length 10) x.f16).isEmpty
  · refine ⟨_, rfl, by show (List.take (min x.f16.length 10) x.f16).length ≤ 10; omega, fun h p hp => h p (List.mem_of_mem_take hp)⟩
  · exact ⟨_, rfl, by simp, fun h p hp => by simp at hp⟩

theorem copy_eq {x : S7} (hl : x.f16.length ≤ 1000) : g30 x = some x := by
  simp only [g30, g30T, get_br, room_small (show 248 ≤ 1000000 by omega) (show 0 + x.f16.length ≤ 1000 by omega), get_leaf, cond_true]
  cases he : x.f16.isEmpty
  · rfl
  · rw [List.isEmpty_iff] at he
    cases x; simp at he; simp [he]

theorem inq {x : S7} {n : Int} : g14 x n = (decide (n ≥ 0) && decide (n < x.f16.length)) := by
  simp only [g14, g14T, gett_leaf, and_cond]
theorem inq' {x : S7} {n : Int} : g18 x n = (decide (n ≥ 0) && decide (n < x.f16.length)) := by
  simp only [g18, g18T, gett_leaf, and_cond]
theorem In.q {x : S7} {n : Int} (h : In x n) : g14 x n = true := by rw [inq, decide_eq_true h.1, decide_eq_true h.2]; rfl
theorem In.q' {x : S7} {n : Int} (h : In x n) : g18 x n = true := by rw [inq', decide_eq_true h.1, decide_eq_true h.2]; rfl
theorem out_q {x : S7} {n : Int} (h : ¬ In x n) : g14 x n = false := by
  rw [inq]; unfold In at h
  by_cases a : n ≥ 0
  · rw [decide_eq_true a, decide_eq_false (by omega)]; rfl
  · rw [decide_eq_false a]; rfl
theorem out_q' {x : S7} {n : Int} (h : ¬ In x n) : g18 x n = false := by rw [inq', ← inq, out_q h]
theorem In.at {x : S7} {n : Int} (h : In x n) : ∃ p, x.f16[n.toNat]? = some p ∧ p ∈ x.f16 := by
  have : n.toNat < x.f16.length := by unfold In at h; omega
  exact ⟨x.f16[n.toNat], List.getElem?_eq_getElem this, List.getElem_mem this⟩

theorem wth_len (x : S7) (n : Int) (p : S0) : (wth x n p).f16.length = x.f16.length := by simp [wth]
theorem wth_in {x : S7} {n : Int} (p : S0) (h : In x n) : In (wth x n p) n := by unfold In at *; rw [wth_len]; exact h
theorem wth_at {x : S7} {n : Int} (p : S0) (h : In x n) : (wth x n p).f16[n.toNat]? = some p := by
  unfold wth; unfold In at h
  show (x.f16.set n.toNat p)[n.toNat]? = some p
  rw [List.getElem?_set, if_pos rfl, if_pos (by omega)]
theorem wth_wth (x : S7) (n : Int) (p q : S0) : wth (wth x n p) n q = wth x n q := by simp [wth, List.set_set]
theorem wth_self {x : S7} {n : Int} {p : S0} (h : x.f16[n.toNat]? = some p) : wth x n p = x := by
  unfold wth; rw [set_self h]

theorem with_eq {x : S7} {n : Int} (h : In x n) (hl : x.f16.length ≤ 1000) (p : S0) : g24 x n p = some (wth x n p) := by
  obtain ⟨q, hq, _⟩ := h.at
  simp only [g24, g24T, get_br, clone_small (c := 0) x.f16 (show 248 ≤ 1000000 by omega) hl, Bool.or_true, cond_true, decide_eq_true h.1, decide_eq_true h.2, Bool.and_self, hq, get_optS, get_leaf]
  rfl
theorem with_eq' {x : S7} {n : Int} (h : In x n) (hl : x.f16.length ≤ 1000) (p : S0) : g15 x n p = some (wth x n p) := by
  obtain ⟨q, hq, _⟩ := h.at
  simp only [g15, g15T, copy_eq hl, get_optS, get_br, cond_true, decide_eq_true h.1, decide_eq_true h.2, Bool.and_self, hq, get_leaf]
  rfl

/-- One step of a port in its tree. -/
def stp (x : S7) (n : Int) : S7 × Bool := match x.f16[n.toNat]? with
  | some p => bif g14 x n && (g25 p).2 then (wth x n (g25 p).1, true) else (x, false)
  | none => (x, false)

theorem step_ref {x : S7} {n : Int} (hl : x.f16.length ≤ 1000) : g9 x n = some (stp x n) := by
  simp only [g9, g9T, get_br]
  by_cases h : In x n
  · obtain ⟨p, hp, _⟩ := h.at
    simp only [h.q, Bool.not_true, cond_false, decide_eq_true h.1, cond_true, hp, get_optS]
    unfold stp
    rw [hp]
    simp only [h.q, Bool.true_and, get_br]
    cases (g25 p).2
    · rfl
    · simp only [Bool.not_true, cond_false, cond_true, with_eq' h hl, get_optS, get_leaf]
  · rw [out_q h]
    simp only [Bool.not_false, cond_true, get_leaf]
    unfold stp
    rw [out_q h]
    split <;> rfl

theorem step_eq {x : S7} {n : Int} (hl : x.f16.length ≤ 1000) (hp : ∀ p, x.f16[n.toNat]? = some p → g22 p = g45 p ∧ g23 p = g44 p) : g8 x n = some (stp x n) := by
  simp only [g8, g8T, get_br]
  by_cases h : In x n
  · obtain ⟨p, hpp, _⟩ := h.at
    obtain ⟨e1, e2⟩ := hp p hpp
    have e3 : g20 p = g42 p := rfl
    have e4 : g21 p = g43 p := rfl
    simp only [h.q', Bool.not_true, cond_false, decide_eq_true h.1, cond_true, hpp, get_optS, with_eq h hl, get_leaf, e1, e2, e3, e4]
    unfold stp
    rw [hpp]
    simp only [h.q, Bool.true_and]
    simp only [g25, g25T, gett_br, gett_leaf]
    generalize (wth x n) = W
    generalize g42 p = q1
    generalize g43 p = q2
    generalize g44 p = q3
    generalize g45 p = q4
    rw [show (p.f72 != 3) = !(p.f72 == 3) from rfl]
    by_cases a1 : p.f72 = 1
    · rw [a1]
      generalize (bif !p.f2 then p.f29 != 0 else false) = u
      generalize (bif (bif p.f29 == 3 then p.f69 == 0 else false) then !p.f28 else false) = t
      cases p.f2 <;> cases p.f14 <;> cases p.f22 <;> cases p.f28 <;> cases u <;> rfl
    by_cases a2 : p.f72 = 2
    · rw [a2]
      generalize (bif !p.f2 then p.f29 != 0 else false) = u
      cases p.f2 <;> cases p.f14 <;> cases p.f22 <;> cases p.f28 <;> cases u <;> rfl
    by_cases a3 : p.f72 = 3
    · rw [a3]
      generalize (bif !p.f2 then p.f29 != 0 else false) = u
      generalize (p.f29 == 3) = a
      generalize (p.f69 == 0) = b
      cases p.f14 <;> cases p.f22 <;> cases p.f28 <;> cases u <;> cases a <;> cases b <;> rfl
    · rw [beq_eq_false_iff_ne.mpr a1, beq_eq_false_iff_ne.mpr a2, beq_eq_false_iff_ne.mpr a3]
      rfl
  · rw [out_q' h]
    simp only [Bool.not_false, cond_true, get_leaf]
    unfold stp
    rw [out_q h]
    split <;> rfl

theorem Tok.both {x : S7} (ht : Tok x) (n : Int) : ∀ p, x.f16[n.toNat]? = some p → g22 p = g45 p ∧ g23 p = g44 p :=
  fun p hp => ⟨receives_eq (ht p (List.mem_of_getElem? hp)), updated_eq (ht p (List.mem_of_getElem? hp))⟩

/-- A message heard. -/
def hrd (x : S7) (n : Int) (m : S8) : S7 := match x.f16[n.toNat]? with
  | some p => bif g14 x n then wth x n (g27 p m) else x
  | none => x
theorem hear_ref {x : S7} {n : Int} (m : S8) (hl : x.f16.length ≤ 1000) : g12 x n m = some (hrd x n m) := by
  simp only [g12, g12T, get_br]
  unfold hrd
  by_cases h : In x n
  · obtain ⟨p, hp, _⟩ := h.at
    simp only [h.q, Bool.not_true, cond_false, decide_eq_true h.1, cond_true, hp, get_optS, with_eq' h hl, get_leaf]
  · rw [out_q h]
    simp only [Bool.not_false, cond_true, get_leaf]
    split <;> rfl
theorem hear_eq {x : S7} {n : Int} (m : S8) (hl : x.f16.length ≤ 1000) : g11 x n m = some (hrd x n m) := by
  simp only [g11, g11T, get_br]
  unfold hrd
  by_cases h : In x n
  · obtain ⟨p, hp, _⟩ := h.at
    simp only [h.q', h.q, Bool.not_true, cond_false, decide_eq_true h.1, cond_true, hp, get_optS, with_eq h hl, get_leaf, take_eq]
  · rw [out_q' h, out_q h]
    simp only [Bool.not_false, cond_true, get_leaf]
    split <;> rfl

theorem stp_len (x : S7) (n : Int) : (stp x n).1.f16.length = x.f16.length := by
  unfold stp
  split
  · rename_i p hp
    cases g14 x n && (g25 p).2
    · rfl
    · exact wth_len ..
  · rfl
theorem hrd_len (x : S7) (n : Int) (m : S8) : (hrd x n m).f16.length = x.f16.length := by
  unfold hrd
  split
  · cases g14 x n
    · rfl
    · exact wth_len ..
  · rfl

theorem law3 {x : S7} (ho : Tok x) (n : Int) (m : S8) : g3 x n m = some true := by
  obtain ⟨y, hy, hl, ht⟩ := few_ok x
  have ho := ht ho
  simp only [g3, g3T, hy, get_optS, step_ref (x := y) (n := n) (by omega), step_eq (x := y) (n := n) (by omega) (ho.both n), hear_eq (x := y) (n := n) m (by omega), hear_ref (x := y) (n := n) m (by omega),
    same_self (stp y n).1 (by rw [stp_len]; omega), same_self (hrd y n m) (by rw [hrd_len]; omega), beq_self_eq_true, get_br, cond_true, awake_true, get_leaf]

theorem step_in {x : S7} {n : Int} {p : S0} (h : In x n) (hp : x.f16[n.toNat]? = some p) : stp x n = bif (g25 p).2 then (wth x n (g25 p).1, true) else (x, false) := by
  unfold stp; rw [hp]; simp only [h.q, Bool.true_and]

theorem recv_step {p : S0} (h72 : p.f72 = 3) (h2 : p.f2 = true) (h14 : p.f14 = true) (h28 : p.f28 = false) : g25 p = (g45 p, true) := by
  simp only [g25, g25T, gett_br, gett_leaf, h72, h2, h14, h28]
  cases p.f22 <;> rfl

theorem law4 {x : S7} (ho : Tok x) (n : Int) : g4 x n = some true := by
  obtain ⟨y, hy, hl, ht⟩ := few_ok x
  have ho := ht ho
  simp only [g4, g4T, hy, get_optS, step_eq (x := y) (n := n) (by omega) (ho.both n), get_br]
  by_cases h : In y n
  · obtain ⟨p, hp, _⟩ := h.at
    have hlen : ((stp y n).1.f16.length : Int) = y.f16.length := by rw [stp_len]
    have hlen0 : (stp y n).1.f16.length = y.f16.length := stp_len y n
    have hin' : n < ((stp y n).1.f16.length : Int) := by rw [hlen]; exact h.2
    have hemp : (stp y n).1.f16.isEmpty = false := by
      cases hc : (stp y n).1.f16.isEmpty
      · rfl
      · rw [List.isEmpty_iff] at hc
        rw [hc] at hlen0; unfold In at h; simp at hlen0; omega
    have hroom := room_small (n := 0 + (stp y n).1.f16.length) (b := 248) (show 248 ≤ 1000000 by omega) (by omega)
    have e : ∀ r : S7 × Bool, r = stp y n → ∃ q, r.1.f16[n.toNat]? = some q ∧ { r.1 with f16 := r.1.f16.set n.toNat p } = y ∧ (r.2 = true → q = (g25 p).1) := by
      intro r hr
      rw [step_in h hp] at hr
      cases hc : (g25 p).2
      · rw [hc] at hr; simp only [cond_false] at hr; subst hr
        exact ⟨p, hp, wth_self hp, fun h => by cases h⟩
      · rw [hc] at hr; simp only [cond_true] at hr; subst hr
        exact ⟨(g25 p).1, wth_at _ h, (wth_wth y n (g25 p).1 p).trans (wth_self hp), fun _ => rfl⟩
    obtain ⟨q, hq, hback, h14⟩ := e _ rfl
    have hsame : g10 { (stp y n).1 with f16 := (stp y n).1.f16.set n.toNat p } y = some true := by rw [hback]; exact same_self y (by omega)
    simp only [h.q, hlen, bne_self_eq_false, Bool.not_true, Bool.not_false, cond_true, cond_false, decide_eq_true h.1, hp, hq, hsame, hemp, hroom, get_optS, get_br, get_leaf, awake_true, decide_eq_true h.2, Bool.and_self]
    cases h2 : (stp y n).2
    · simp only [cond_false]
    · simp only [cond_true]
      have hq' := h14 h2
      cases a72 : p.f72 == 3
      · rfl
      cases a2 : p.f2
      · rfl
      cases a14 : p.f14
      · rfl
      cases a28 : p.f28
      · have := recv_step (by simpa using a72) a2 a14 a28
        have : q.f14 = false := by rw [hq', this]; exact (recv_keeps p).2.2.2.1
        rw [this]; rfl
      · rfl
  · rw [out_q h]
    have h2 : (stp y n) = (y, false) := by
      unfold stp; rw [out_q h]; split <;> rfl
    simp only [h2, Bool.not_false, cond_true, awake_true, get_optS, get_leaf]
end Ab11
