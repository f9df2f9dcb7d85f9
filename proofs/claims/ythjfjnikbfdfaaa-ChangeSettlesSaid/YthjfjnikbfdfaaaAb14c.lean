/- Seat 14: the plain laws. -/
import Derived.Test.YthjfjnikbfdfaaaAb14b
import Derived.Test.YthjfjnikbfdfaaaAbList
set_option maxRecDepth 100000
set_option maxHeartbeats 4000000
set_option linter.unusedVariables false
set_option linter.unusedSimpArgs false
namespace Ab14
open Go Ab

def tcp (i : Int) (q : Nat) (p : S0) : S0 := if (q : Int) = i then p else { p with f27 := true }
def prop (x : S5) (i : Int) : S5 := { x with f16 := x.f16.mapIdx (tcp i) }
abbrev isP (x : S5) (i : Int) : Prop := 0 ≤ i ∧ i < x.f16.length
def upd (x : S5) (k : Nat) (p : S0) : S5 := { x with f16 := x.f16.set k p }

theorem loop12 (v : W12_0) (hl : v.a35.length ≤ 1000) (h1 : v.a1 = v.a35.length) (h2 : v.a2 = 0) : iter gR12_0 1000000 v = some (false, { v with a2 := (v.a35.length : Int), a35 := v.a35.mapIdx (tcp v.a0) }) := by
  refine iter_all (fun j => { v with a2 := (j : Int), a35 := mapT (tcp v.a0) j v.a35 }) v.a35.length (fun j hj => ?_) (o := (false, { v with a2 := (v.a35.length : Int), a35 := v.a35.mapIdx (tcp v.a0) })) (n := 1000000) ?_ (by omega) ?_
  · have hp : v.a35[j]? = some v.a35[j] := List.getElem?_eq_getElem hj
    simp only [gR12_0, get_br, h1, mapT_len, decide_eq_true (show (j : Int) < (v.a35.length : Int) by omega), decide_eq_true (show (0 : Int) ≤ (j : Int) by omega), cond_true, Bool.and_self, Int.toNat_natCast, mapT_at _ hp, get_optS, get_leaf, i64_nat (j := j) (by omega)]
    by_cases hji : (j : Int) = v.a0
    · simp only [hji, beq_self_eq_true, cond_true]
      rw [mapT_stay (tcp v.a0) hp (by simp [tcp, hji])]
    · simp only [beq_eq_false_iff_ne.mpr hji, cond_false]
      rw [← mapT_step (tcp v.a0) hp]
      simp only [tcp, if_neg hji]
  · simp only [gR12_0, get_br, h1, Int.lt_irrefl, decide_false, cond_false, get_leaf, mapT_all]
  · cases v; simp at h2; simp [h2, mapT_zero]

theorem loop13 (v : W13_0) (hl : v.a18.length ≤ 1000) (h1 : v.a1 = 0) (h2 : v.a35 = []) : iter gR13_0 1000000 v = some (false, { v with a1 := (v.a18.length : Int), a35 := v.a18.mapIdx (tcp v.a0) }) := by
  refine iter_all (fun j => { v with a1 := (j : Int), a35 := tkF (tcp v.a0) j v.a18 }) v.a18.length (fun j hj => ?_) (o := (false, { v with a1 := (v.a18.length : Int), a35 := v.a18.mapIdx (tcp v.a0) })) (n := 1000000) ?_ (by omega) ?_
  · have hp : v.a18[j]? = some v.a18[j] := List.getElem?_eq_getElem hj
    simp only [gR13_0, get_br, tkF_len _ (Nat.le_of_lt hj), decide_eq_true (show (j : Int) < (v.a18.length : Int) by omega), decide_eq_true (show (0 : Int) ≤ (j : Int) by omega), cond_true, Bool.and_self, Int.toNat_natCast, hp, get_optS, get_leaf, i64_nat (j := j) (by omega), room_small (show 248 ≤ 1000000 by omega) (show j + 1 ≤ 1000 by omega), ← tkF_step (tcp v.a0) hp]
    by_cases hji : (j : Int) = v.a0
    · simp only [hji, bne_self_eq_false, cond_false, tcp, if_true]
    · simp only [bne_iff_ne.mpr hji, cond_true, tcp, if_neg hji]
  · simp only [gR13_0, get_br, Int.lt_irrefl, decide_false, cond_false, get_leaf, tkF_all]
  · cases v; simp at h1 h2; simp [h1, h2, tkF_zero]

theorem g12_eq (x : S5) (i : Int) (hl : x.f16.length ≤ 1000) : g12 x i = some (if isP x i then prop x i else x) := by
  by_cases h : isP x i
  · have h21 : g21 x i = true := by simp [g21, g21T, gett_leaf, isP] at h ⊢; exact h
    simp only [g12, g12T, get_br, h21, Bool.not_true, cond_false, clone_small (c := 0) x.f16 (show 248 ≤ 1000000 by omega) hl, Bool.or_true, cond_true, get_opt]
    rw [loop12 _ hl rfl rfl]
    simp only [Option.bind_some, get_br, cond_false, get_leaf, if_pos h]
    rfl
  · have h21 : g21 x i = false := by
      simp [isP] at h
      simp [g21, g21T, gett_leaf]
      intro h0; simpa using h h0
    simp only [g12, g12T, get_br, h21, Bool.not_false, cond_true, get_leaf, if_neg h]

theorem g13_eq (x : S5) (i : Int) (hl : x.f16.length ≤ 1000) : g13 x i = some (if isP x i then prop x i else x) := by
  by_cases h : isP x i
  · have h21 : g23 x i = true := by simp [g23, g23T, gett_leaf, isP] at h ⊢; exact h
    simp only [g13, g13T, get_br, h21, Bool.not_true, cond_false, get_opt]
    rw [loop13 _ hl rfl rfl]
    simp only [Option.bind_some, get_br, cond_false, get_leaf, if_pos h]
    rfl
  · have h21 : g23 x i = false := by
      simp [isP] at h
      simp [g23, g23T, gett_leaf]
      intro h0; simpa using h h0
    simp only [g13, g13T, get_br, h21, Bool.not_false, cond_true, get_leaf, if_neg h]

theorem eqS0_self (p : S0) : eqS0 p p = true := by simp only [eqS0, beq_self_eq_true, Bool.and_self]
theorem eqS3_self (p : S3) : eqS3 p p = true := by simp only [eqS3, beq_self_eq_true, Bool.and_self]
theorem eqS4_self (p : S4) : eqS4 p p = true := by simp only [eqS4, beq_self_eq_true, Bool.and_self]

theorem same_self (x : S5) (hl : x.f16.length ≤ 1000) : g11 x x = some true := by
  simp only [g11, g11T, get_br, bne_self_eq_false, beq_self_eq_true, eqS3_self, eqS4_self, Bool.not_true, cond_false, get_opt]
  have : ∀ v : W11_0, v.a18 = x.f16 → v.a35 = x.f16 → v.a1 = 0 → iter gR11_0 1000000 v = some (false, { v with a1 := (x.f16.length : Int) }) := by
    intro v h1 h2 h3
    refine iter_all (fun j => { v with a1 := (j : Int) }) x.f16.length (fun j hj => ?_) (o := (false, { v with a1 := (x.f16.length : Int) })) (n := 1000000) ?_ (by omega) ?_
    · have hp : x.f16[j]? = some x.f16[j] := List.getElem?_eq_getElem hj
      simp only [gR11_0, h1, h2, get_br, decide_eq_true (show (j : Int) < (x.f16.length : Int) by omega), decide_eq_true (show (0 : Int) ≤ (j : Int) by omega), cond_true, Int.toNat_natCast, hp, get_optS, eqS0_self, Bool.not_true, cond_false, get_leaf, i64_nat (j := j) (by omega)]
    · simp only [gR11_0, h1, get_br, Int.lt_irrefl, decide_false, cond_false, get_leaf]
    · cases v; simp at h3; simp [h3]
  rw [this _ rfl rfl rfl]
  simp only [Option.bind_some, get_br, cond_false, get_leaf]

theorem awake_true : g16 = some true := by kernel_rfl

theorem isP_get {x : S5} {i : Int} (h : isP x i) : ∃ (k : Nat) (p : S0), i = (k : Int) ∧ k < x.f16.length ∧ x.f16[k]? = some p := by
  obtain ⟨h1, h2⟩ := h
  exact ⟨i.toNat, x.f16[i.toNat]'(by omega), by omega, by omega, List.getElem?_eq_getElem (by omega)⟩

theorem g27_eq {x : S5} {k : Nat} (q : S0) (hk : k < x.f16.length) (hl : x.f16.length ≤ 1000) : g27 x (k : Int) q = some (upd x k q) := by
  have he : x.f16.isEmpty = false := by
    cases h : x.f16 with
    | nil => rw [h] at hk; simp at hk
    | cons _ _ => rfl
  have hp : x.f16[k]? = some x.f16[k] := List.getElem?_eq_getElem hk
  simp only [g27, g27T, get_br, he, cond_false, Nat.zero_add, room_small (show 248 ≤ 1000000 by omega) hl, cond_true, decide_eq_true (show (0 : Int) ≤ (k : Int) by omega), decide_eq_true (show (k : Int) < (x.f16.length : Int) by omega), Bool.and_self, Int.toNat_natCast, hp, get_optS, get_leaf]
  rfl

theorem g26_eq (n : Int) : g26 n = IntKind.u8.wrap (mnI 255 n) := by
  simp only [g26, g26T, gett_br, gett_leaf, mnI]
  by_cases h : n > 255
  · rw [decide_eq_true h, if_neg (by omega)]; rfl
  · rw [decide_eq_false h]
    by_cases h2 : n < 255
    · rw [if_pos h2]; rfl
    · have : n = 255 := by omega
      subst this; rfl

def nwp (x : S5) (p : S0) : S0 := if p.f23 then { p with f71 := IntKind.u8.wrap (mnI 255 (IntKind.i64.wrap (IntKind.i64.wrap x.f14 + 1))), f11 := true } else { p with f71 := IntKind.u8.wrap (mnI 255 (IntKind.i64.wrap (IntKind.i64.wrap x.f13 + IntKind.i64.wrap x.f15))) }
def nw (x : S5) (k : Nat) (p : S0) : S5 := if p.f71 = 0 then upd x k (nwp x p) else x

theorem g14_eq {x : S5} {k : Nat} {p : S0} (hk : k < x.f16.length) (hp : x.f16[k]? = some p) (hl : x.f16.length ≤ 1000) : g14 x (k : Int) = some (nw x k p) := by
  have h21 : g21 x (k : Int) = true := by simp [g21, g21T, gett_leaf]; omega
  have h0 : decide ((0 : Int) ≤ (k : Int)) = true := decide_eq_true (by omega)
  have h1 : decide ((k : Int) < (x.f16.length : Int)) = true := decide_eq_true (by omega)
  simp only [g14, g14T, get_br, h21, Bool.not_true, Bool.not_false, cond_true, cond_false, h0, h1, Int.toNat_natCast, hp, get_optS, get_leaf, clone_small (c := 0) x.f16 (show 248 ≤ 1000000 by omega) hl, Bool.or_true, Bool.and_self, get_set hk]
  unfold nw nwp upd
  by_cases h : p.f71 = 0
  · simp only [h, bne_self_eq_false, cond_false, if_true]
    cases p.f23 <;> simp [get_set hk]
  · simp only [bne_iff_ne.mpr h, cond_true, if_neg h]

theorem g15_eq {x : S5} {k : Nat} {p : S0} (hk : k < x.f16.length) (hp : x.f16[k]? = some p) (hl : x.f16.length ≤ 1000) : g15 x (k : Int) = some (nw x k p) := by
  have h21 : g23 x (k : Int) = true := by simp [g23, g23T, gett_leaf]; omega
  have h0 : decide ((0 : Int) ≤ (k : Int)) = true := decide_eq_true (by omega)
  simp only [g15, g15T, get_br, h21, Bool.not_true, Bool.not_false, cond_true, cond_false, h0, Int.toNat_natCast, hp, get_optS, get_leaf, g27_eq _ hk hl, g26_eq]
  unfold nw nwp
  by_cases h : p.f71 = 0
  · simp only [h, bne_self_eq_false, cond_false, if_true]
    cases p.f23 <;> rfl
  · simp only [bne_iff_ne.mpr h, cond_true, if_neg h]

theorem g14_no {x : S5} {i : Int} (h : ¬ isP x i) : g14 x i = some x := by
  have h21 : g21 x i = false := by
    simp [isP] at h
    simp [g21, g21T, gett_leaf]
    intro h0; simpa using h h0
  simp only [g14, g14T, get_br, h21, Bool.not_true, Bool.not_false, cond_true, cond_false, get_leaf]
theorem g15_no {x : S5} {i : Int} (h : ¬ isP x i) : g15 x i = some x := by
  have h21 : g23 x i = false := by
    simp [isP] at h
    simp [g23, g23T, gett_leaf]
    intro h0; simpa using h h0
  simp only [g15, g15T, get_br, h21, Bool.not_true, Bool.not_false, cond_true, cond_false, get_leaf]

theorem nw_len (x : S5) (k : Nat) (p : S0) : (nw x k p).f16.length = x.f16.length := by unfold nw upd; split <;> simp
theorem nw_get {x : S5} {k : Nat} {p : S0} (hk : k < x.f16.length) (hp : x.f16[k]? = some p) : (nw x k p).f16[k]? = some (if p.f71 = 0 then nwp x p else p) := by
  unfold nw upd; split
  · simp [hk]
  · exact hp
theorem upd_len (x : S5) (k : Nat) (p : S0) : (upd x k p).f16.length = x.f16.length := by simp [upd]
theorem upd_get {x : S5} {k : Nat} (p : S0) (hk : k < x.f16.length) : (upd x k p).f16[k]? = some p := by simp [upd, hk]
theorem prop_len (x : S5) (i : Int) : (prop x i).f16.length = x.f16.length := by simp [prop]
theorem prop_get {x : S5} {k : Nat} {p : S0} (hp : x.f16[k]? = some p) : (prop x (k : Int)).f16[k]? = some p := by simp [prop, hp, tcp]

theorem few_ok (x : S5) : ∃ y, g10 x = some y ∧ y.f16.length ≤ 12 := by
  simp only [g10, g10T, get_br]
  by_cases h : (x.f16.length : Int) > 12
  · rw [decide_eq_true h, decide_eq_true (show (12 : Int) ≤ (x.f16.length : Int) by omega)]
    refine ⟨_, rfl, ?_⟩
    simp; omega
  · rw [decide_eq_false h]
    exact ⟨x, rfl, by omega⟩

theorem law3 (x : S5) (i : Int) : g3 x i = some true := by
  obtain ⟨y, hy, hl⟩ := few_ok x
  have hl : y.f16.length ≤ 1000 := by omega
  have s1 : ∀ z : S5, z.f16.length = y.f16.length → g11 z z = some true := fun z hz => same_self z (by omega)
  by_cases h : isP y i
  · obtain ⟨k, p, rfl, hk, hp⟩ := isP_get h
    simp only [g3, g3T, hy, get_optS, g12_eq y _ hl, g13_eq y _ hl, if_pos h, s1 _ (prop_len y _), get_br, cond_true, g14_eq hk hp hl, g15_eq hk hp hl, s1 _ (nw_len y k p), awake_true, get_leaf]
  · simp only [g3, g3T, hy, get_optS, g12_eq y _ hl, g13_eq y _ hl, if_neg h, s1 y rfl, get_br, cond_true, g14_no h, g15_no h, awake_true, get_leaf]

def lrn (p : S0) : S0 := { p with f17 := false, f18 := false, f19 := false, f27 := false, f74 := 2 }
def qui (p : S0) : S0 := { p with f6 := true, f26 := false, f71 := 0, f74 := 1 }
def nq (x : S5) (p : S0) : S0 := if p.f71 = 0 then nwp x p else p
def act (x : S5) (k : Nat) (p : S0) (b : Bool) : S5 × Bool :=
  if b = false then (upd x k (lrn p), true)
  else if p.f19 = true then (prop (upd (nw x k p) k { nq x p with f17 := false, f19 := false, f26 := (nq x p).f26 || (nq x p).f30 == 4 }) (k : Int), true)
  else if p.f17 = true then (prop (upd x k { p with f17 := false, f19 := false, f26 := p.f26 || p.f30 == 4 }) (k : Int), true)
  else if p.f27 = true then (upd (nw x k p) k { nq x p with f6 := true, f27 := false }, true)
  else if p.f18 = true then (upd x k { p with f18 := false, f71 := 0 }, true)
  else (x, false)

theorem prop_at {x : S5} {k : Nat} (hk : k < x.f16.length) (hl : x.f16.length ≤ 1000) : g12 x (k : Int) = some (prop x (k : Int)) := by
  rw [g12_eq x _ hl, if_pos (show isP x (k : Int) from ⟨by omega, by omega⟩)]
theorem prop_at' {x : S5} {k : Nat} (hk : k < x.f16.length) (hl : x.f16.length ≤ 1000) : g13 x (k : Int) = some (prop x (k : Int)) := by
  rw [g13_eq x _ hl, if_pos (show isP x (k : Int) from ⟨by omega, by omega⟩)]

theorem upd_eta (x : S5) (k : Nat) (p : S0) : ({ x with f16 := x.f16.set k p } : S5) = upd x k p := rfl

theorem g31_eq {x : S5} {k : Nat} {p : S0} (b : Bool) (hk : k < x.f16.length) (hp : x.f16[k]? = some p) (hl : x.f16.length ≤ 1000) : g31 x (k : Int) b = some (act x k p b) := by
  have h0 : decide ((0 : Int) ≤ (k : Int)) = true := decide_eq_true (by omega)
  have h1 : decide ((k : Int) < (x.f16.length : Int)) = true := decide_eq_true (by omega)
  have hn := nw_get hk hp
  have hnk : k < (nw x k p).f16.length := by rw [nw_len]; exact hk
  have h1n : decide ((k : Int) < ((nw x k p).f16.length : Int)) = true := decide_eq_true (by omega)
  have hnl : (nw x k p).f16.length ≤ 1000 := by rw [nw_len]; exact hl
  simp only [g31, g31T, get_br, h0, h1, cond_true, Bool.and_self, Int.toNat_natCast, hp, get_optS, clone_small (c := 0) x.f16 (show 248 ≤ 1000000 by omega) hl, Bool.or_true, get_set, List.length_set, hk, List.set_set,
    g14_eq hk hp hl, hn, h1n, hnk, clone_small (c := 0) (nw x k p).f16 (show 248 ≤ 1000000 by omega) hnl, upd_eta, get_leaf]
  rw [show (if p.f71 = 0 then nwp x p else p) = nq x p from rfl]
  have pa : ∀ q, g12 (upd x k q) (k : Int) = some (prop (upd x k q) (k : Int)) := fun q => prop_at (by rw [upd_len]; exact hk) (by rw [upd_len]; exact hl)
  have pb : ∀ q, g12 (upd (nw x k p) k q) (k : Int) = some (prop (upd (nw x k p) k q) (k : Int)) := fun q => prop_at (by rw [upd_len]; exact hnk) (by rw [upd_len]; exact hnl)
  simp only [pa, pb, get_optS, get_leaf]
  unfold act
  cases b
  · rfl
  · cases h19 : p.f19
    · cases h17 : p.f17
      · cases p.f27 <;> cases p.f18 <;> rfl
      · cases h26 : p.f26 <;> simp
    · cases h26 : (nq x p).f26 <;> simp

theorem g32_eq {x : S5} {k : Nat} {p : S0} (hk : k < x.f16.length) (hp : x.f16[k]? = some p) (hl : x.f16.length ≤ 1000) : g32 x (k : Int) = some (upd x k (lrn p), true) := by
  simp only [g32, g32T, get_br, decide_eq_true (show (0 : Int) ≤ (k : Int) by omega), cond_true, Int.toNat_natCast, hp, get_optS, g27_eq _ hk hl, get_leaf]
  rfl
theorem g35_eq {x : S5} {k : Nat} {p : S0} (hk : k < x.f16.length) (hp : x.f16[k]? = some p) (hl : x.f16.length ≤ 1000) : g35 x (k : Int) = some (upd x k (qui p), true) := by
  simp only [g35, g35T, get_br, decide_eq_true (show (0 : Int) ≤ (k : Int) by omega), cond_true, Int.toNat_natCast, hp, get_optS, g27_eq _ hk hl, get_leaf]
  rfl

theorem g34_eq {x : S5} {k : Nat} {p : S0} (b : Bool) (hk : k < x.f16.length) (hp : x.f16[k]? = some p) (hl : x.f16.length ≤ 1000) : g34 x (k : Int) b = some (act x k p b) := by
  have h0 : decide ((0 : Int) ≤ (k : Int)) = true := decide_eq_true (by omega)
  have hn := nw_get hk hp
  have hnk : k < (nw x k p).f16.length := by rw [nw_len]; exact hk
  have hnl : (nw x k p).f16.length ≤ 1000 := by rw [nw_len]; exact hl
  simp only [g34, g34T, get_br, h0, cond_true, Int.toNat_natCast, hp, get_optS, g27_eq _ hk hl, g27_eq _ hnk hnl, g32_eq hk hp hl, g15_eq hk hp hl, hn, get_leaf]
  rw [show (if p.f71 = 0 then nwp x p else p) = nq x p from rfl]
  have pa : ∀ q, g13 (upd x k q) (k : Int) = some (prop (upd x k q) (k : Int)) := fun q => prop_at' (by rw [upd_len]; exact hk) (by rw [upd_len]; exact hl)
  have pb : ∀ q, g13 (upd (nw x k p) k q) (k : Int) = some (prop (upd (nw x k p) k q) (k : Int)) := fun q => prop_at' (by rw [upd_len]; exact hnk) (by rw [upd_len]; exact hnl)
  simp only [pa, pb, get_optS, get_leaf]
  unfold act
  cases b
  · rfl
  · cases h19 : p.f19
    · cases h17 : p.f17
      · cases p.f27 <;> cases p.f18 <;> rfl
      · cases h30 : (p.f30 == 4) <;> simp
    · cases h30 : ((nq x p).f30 == 4) <;> simp

def came (p : S0) : Bool := p.f17 || p.f19 || p.f18 || p.f27
def plc (p : S0) : Bool := p.f30 == 3 || p.f30 == 4
def lea (x : S5) (k : Nat) (p : S0) (b : Bool) : S5 × Bool :=
  if (b && p.f7) = true then (upd (prop (nw x k p) (k : Int)) k { nq x p with f11 := true, f74 := 3 }, true)
  else if (!b && !p.f9 && !p.f10 && !came p) = true then (upd x k (qui p), true)
  else if came p = true then (upd x k (lrn p), true)
  else (x, false)
def tcm (x : S5) (k : Nat) (p : S0) : S5 × Bool :=
  if p.f74 = 1 then (if (p.f9 && !p.f6) = true then (upd x k (lrn p), true) else (x, false))
  else if p.f74 = 2 then lea x k p (plc p)
  else if p.f74 = 3 then act x k p (plc p)
  else (upd x k (qui p), true)

theorem g33_eq {x : S5} {k : Nat} {p : S0} (b : Bool) (hk : k < x.f16.length) (hp : x.f16[k]? = some p) (hl : x.f16.length ≤ 1000) : g33 x (k : Int) b = some (lea x k p b) := by
  have h0 : decide ((0 : Int) ≤ (k : Int)) = true := decide_eq_true (by omega)
  have hn := nw_get hk hp
  rw [show (if p.f71 = 0 then nwp x p else p) = nq x p from rfl] at hn
  have hnk : k < (nw x k p).f16.length := by rw [nw_len]; exact hk
  have hnl : (nw x k p).f16.length ≤ 1000 := by rw [nw_len]; exact hl
  have hpg := prop_get hn
  have hpk : k < (prop (nw x k p) (k : Int)).f16.length := by rw [prop_len]; exact hnk
  have hpl : (prop (nw x k p) (k : Int)).f16.length ≤ 1000 := by rw [prop_len]; exact hnl
  simp only [g33, g33T, get_br, h0, cond_true, Int.toNat_natCast, hp, get_optS, g15_eq hk hp hl, prop_at' hnk hnl, hpg, g27_eq _ hpk hpl, g35_eq hk hp hl, g32_eq hk hp hl, get_leaf, or_cond, and_cond]
  unfold lea came
  cases (b && p.f7)
  · cases (!b && !p.f9 && !p.f10 && !(p.f17 || p.f19 || p.f18 || p.f27))
    · cases (p.f17 || p.f19 || p.f18 || p.f27) <;> rfl
    · rfl
  · rfl

theorem g17_eq {x : S5} {k : Nat} {p : S0} (hk : k < x.f16.length) (hp : x.f16[k]? = some p) (hl : x.f16.length ≤ 1000) : g17 x (k : Int) = some (tcm x k p) := by
  have h21 : g21 x (k : Int) = true := by simp [g21, g21T, gett_leaf]; omega
  have h0 : decide ((0 : Int) ≤ (k : Int)) = true := decide_eq_true (by omega)
  have h1 : decide ((k : Int) < (x.f16.length : Int)) = true := decide_eq_true (by omega)
  have hn := nw_get hk hp
  rw [show (if p.f71 = 0 then nwp x p else p) = nq x p from rfl] at hn
  have hnk : k < (nw x k p).f16.length := by rw [nw_len]; exact hk
  have hnl : (nw x k p).f16.length ≤ 1000 := by rw [nw_len]; exact hl
  have hpg := prop_get hn
  have hpk : k < (prop (nw x k p) (k : Int)).f16.length := by rw [prop_len]; exact hnk
  have hpl : (prop (nw x k p) (k : Int)).f16.length ≤ 1000 := by rw [prop_len]; exact hnl
  have h1p : decide ((k : Int) < ((prop (nw x k p) (k : Int)).f16.length : Int)) = true := decide_eq_true (by omega)
  simp only [g17, g17T, get_br, h21, Bool.not_true, cond_false, h0, h1, cond_true, Bool.and_self, Int.toNat_natCast, hp, get_optS, clone_small (c := 0) x.f16 (show 248 ≤ 1000000 by omega) hl, Bool.or_true, get_set, List.length_set, hk, List.set_set,
    g14_eq hk hp hl, prop_at hnk hnl, hpg, h1p, hpk, clone_small (c := 0) (prop (nw x k p) (k : Int)).f16 (show 248 ≤ 1000000 by omega) hpl, g31_eq _ hk hp hl, upd_eta, get_leaf, or_cond, and_cond]
  unfold tcm lea came plc
  by_cases a1 : p.f74 = 1
  · simp only [a1, beq_self_eq_true, cond_true, if_true]
    cases (p.f9 && !p.f6) <;> rfl
  · simp only [beq_eq_false_iff_ne.mpr a1, cond_false, if_neg a1]
    by_cases a2 : p.f74 = 2
    · simp only [a2, beq_self_eq_true, cond_true, if_true]
      cases ((p.f30 == 3 || p.f30 == 4) && p.f7)
      · cases (!(p.f30 == 3 || p.f30 == 4) && !p.f9 && !p.f10 && !(p.f17 || p.f19 || p.f18 || p.f27))
        · cases (p.f17 || p.f19 || p.f18 || p.f27) <;> rfl
        · rfl
      · rfl
    · simp only [beq_eq_false_iff_ne.mpr a2, cond_false, if_neg a2]
      by_cases a3 : p.f74 = 3
      · simp only [a3, beq_self_eq_true, cond_true, if_true]
      · simp only [beq_eq_false_iff_ne.mpr a3, cond_false, if_neg a3]
        rfl

theorem g18_eq {x : S5} {k : Nat} {p : S0} (hk : k < x.f16.length) (hp : x.f16[k]? = some p) (hl : x.f16.length ≤ 1000) : g18 x (k : Int) = some (tcm x k p) := by
  have h21 : g23 x (k : Int) = true := by simp [g23, g23T, gett_leaf]; omega
  have h0 : decide ((0 : Int) ≤ (k : Int)) = true := decide_eq_true (by omega)
  simp only [g18, g18T, get_br, h21, Bool.not_true, cond_false, h0, cond_true, Int.toNat_natCast, hp, get_optS, g32_eq hk hp hl, g33_eq _ hk hp hl, g34_eq _ hk hp hl, g35_eq hk hp hl, get_leaf, or_cond, and_cond]
  unfold tcm plc
  by_cases a1 : p.f74 = 1
  · simp only [a1, beq_self_eq_true, cond_true, if_true]
    cases (p.f9 && !p.f6) <;> rfl
  · simp only [beq_eq_false_iff_ne.mpr a1, cond_false, if_neg a1]
    by_cases a2 : p.f74 = 2
    · simp only [a2, beq_self_eq_true, cond_true, if_true]
    · simp only [beq_eq_false_iff_ne.mpr a2, cond_false, if_neg a2]
      by_cases a3 : p.f74 = 3
      · simp only [a3, beq_self_eq_true, cond_true, if_true]
      · simp only [beq_eq_false_iff_ne.mpr a3, cond_false, if_neg a3]

theorem g17_no {x : S5} {i : Int} (h : ¬ isP x i) : g17 x i = some (x, false) := by
  have h21 : g21 x i = false := by
    simp [isP] at h
    simp [g21, g21T, gett_leaf]
    intro h0; simpa using h h0
  simp only [g17, g17T, get_br, h21, Bool.not_false, cond_true, get_leaf]
theorem g18_no {x : S5} {i : Int} (h : ¬ isP x i) : g18 x i = some (x, false) := by
  have h21 : g23 x i = false := by
    simp [isP] at h
    simp [g23, g23T, gett_leaf]
    intro h0; simpa using h h0
  simp only [g18, g18T, get_br, h21, Bool.not_false, cond_true, get_leaf]

theorem act_len (x : S5) (k : Nat) (p : S0) (b : Bool) : (act x k p b).1.f16.length = x.f16.length := by
  unfold act
  repeat' split
  all_goals simp only [prop_len, upd_len, nw_len]
theorem tcm_len (x : S5) (k : Nat) (p : S0) : (tcm x k p).1.f16.length = x.f16.length := by
  unfold tcm lea
  repeat' split
  all_goals simp only [prop_len, upd_len, nw_len, act_len]

theorem law4 (x : S5) (i : Int) : g4 x i = some true := by
  obtain ⟨y, hy, hl⟩ := few_ok x
  have hl : y.f16.length ≤ 1000 := by omega
  have s1 : ∀ z : S5, z.f16.length = y.f16.length → g11 z z = some true := fun z hz => same_self z (by omega)
  have he : ∀ L : List S0, L.isEmpty = true → L = [] := fun L h => by simpa using h
  by_cases h : isP y i
  · obtain ⟨k, p, rfl, hk, hp⟩ := isP_get h
    have hne : y.f16.isEmpty = false := by
      cases hh : y.f16 with
      | nil => rw [hh] at hk; simp at hk
      | cons _ _ => rfl
    simp only [g4, g4T, hy, get_optS, get_br, hne, cond_false, Nat.zero_add, room_small (show 248 ≤ 1000000 by omega) hl, cond_true, g17_eq hk hp hl, g18_eq hk hp hl, s1 _ (tcm_len y k p), beq_self_eq_true, s1 y rfl, awake_true, get_leaf]
  · cases hne : y.f16.isEmpty with
    | true =>
      have hz := he _ hne
      have hy' : ({ y with f16 := [] } : S5) = y := by rw [← hz]
      simp only [g4, g4T, hy, get_optS, get_br, hne, cond_true, g17_no h, g18_no h, hy', s1 y rfl, beq_self_eq_true, awake_true, get_leaf]
    | false =>
      simp only [g4, g4T, hy, get_optS, get_br, hne, cond_false, Nat.zero_add, room_small (show 248 ≤ 1000000 by omega) hl, cond_true, g17_no h, g18_no h, s1 y rfl, beq_self_eq_true, awake_true, get_leaf]

theorem law8 (p : S0) : g8 p = some true := by
  have e : g19 p = g20 p := rfl
  simp only [g8, g8T, e, get_br, eqS0_self, beq_self_eq_true, cond_true, awake_true, get_optS, get_leaf]

theorem eqS0_of {p q : S0} (h : p = q) : eqS0 p q = true := by subst h; exact eqS0_self p

theorem rem_ok {n x : Int} (h0 : 0 < n) (hx : 0 ≤ x ∧ x ≤ 255) : 0 ≤ remI (IntKind.i64.wrap x) n ∧ remI (IntKind.i64.wrap x) n < n := by
  rw [IntWalk.i64_in _ (by omega)]
  unfold remI
  exact ⟨Int.tmod_nonneg _ hx.1, Int.tmod_lt_of_pos _ h0⟩

theorem few_k {y : S5} {x : Int} (hne : ¬ (y.f16.length : Int) = 0) (hx : 0 ≤ x ∧ x ≤ 255) : ∃ (k : Nat) (p : S0), remI (IntKind.i64.wrap x) (y.f16.length : Int) = (k : Int) ∧ k < y.f16.length ∧ y.f16[k]? = some p := by
  obtain ⟨h1, h2⟩ := rem_ok (n := (y.f16.length : Int)) (by omega) hx
  obtain ⟨k, p, e, hk, hp⟩ := isP_get (x := y) (i := remI (IntKind.i64.wrap x) (y.f16.length : Int)) ⟨h1, h2⟩
  exact ⟨k, p, e, hk, hp⟩

end Ab14
