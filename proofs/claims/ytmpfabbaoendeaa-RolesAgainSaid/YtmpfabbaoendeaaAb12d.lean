/- Seat 12: the plain laws, second part: what is selected. -/
import Derived.Test.YtmpfabbaoendeaaAb12c
set_option maxRecDepth 100000
set_option maxHeartbeats 1000000
set_option linter.unusedVariables false
set_option linter.unusedSimpArgs false
namespace Ab12
open Go Ab

theorem eqS0_self (p : S0) : eqS0 p p = true := by simp only [eqS0, beq_self_eq_true, Bool.and_self]
theorem eqS3_self (p : S3) : eqS3 p p = true := by simp only [eqS3, beq_self_eq_true, Bool.and_self]
theorem eqS4_self (p : S4) : eqS4 p p = true := by simp only [eqS4, beq_self_eq_true, Bool.and_self]
theorem awake_true : g13 = some true := by kernel_rfl

theorem same_self (x : S5) (hl : x.f16.length ≤ 1000) : g14 x x = some true := by
  simp only [g14, g14T, get_br, bne_self_eq_false, beq_self_eq_true, eqS3_self, eqS4_self, Bool.not_true, cond_false, get_opt]
  have : ∀ v : W14_0, v.a18 = x.f16 → v.a35 = x.f16 → v.a1 = 0 → iter gR14_0 1000000 v = some (false, { v with a1 := (x.f16.length : Int) }) := by
    intro v h1 h2 h3
    refine iter_all (fun j => { v with a1 := (j : Int) }) x.f16.length (fun j hj => ?_) (o := (false, { v with a1 := (x.f16.length : Int) })) (n := 1000000) ?_ (by omega) ?_
    · have hp : x.f16[j]? = some x.f16[j] := List.getElem?_eq_getElem hj
      simp only [gR14_0, h1, h2, get_br, decide_eq_true (show (j : Int) < (x.f16.length : Int) by omega), decide_eq_true (show (0 : Int) ≤ (j : Int) by omega), cond_true, Int.toNat_natCast, hp, get_optS, eqS0_self, Bool.not_true, cond_false, get_leaf, i64_nat (j := j) (by omega)]
    · simp only [gR14_0, h1, get_br, Int.lt_irrefl, decide_false, cond_false, get_leaf]
    · cases v; simp at h3; simp [h3]
  rw [this _ rfl rfl rfl]
  simp only [Option.bind_some, get_br, cond_false, get_leaf]

theorem few_ok (x : S5) : ∃ y, g10 x = some y ∧ y.f16.length ≤ 12 ∧ (Tok x → Tok y) := by
  simp only [g10, g10T, get_br]
  by_cases h : (x.f16.length : Int) > 12
  · rw [decide_eq_true h, decide_eq_true (show (12 : Int) ≤ (x.f16.length : Int) by omega)]
    refine ⟨_, rfl, ?_, fun ho => ⟨ho.1, fun p hp => ho.2 p (List.mem_of_mem_take hp)⟩⟩
    simp; omega
  · rw [decide_eq_false h]
    exact ⟨x, rfl, by omega, fun h => h⟩

theorem law3 {x : S5} (ho : Tok x) : g3 x = some true := by
  obtain ⟨y, hy, hl, ht⟩ := few_ok x
  have ho := ht ho
  simp only [g3, g3T, hy, get_optS, loop11 rfl ho (by omega), loop12 rfl ho (by omega), get_br, eqS4_self, beq_self_eq_true, cond_true, awake_true, get_leaf]

/-- What the document designates of a port. -/
def dq (x : S5) (v : S4) (tm : S3) (p : S0) : S0 := { p with f21 := false, f22 := true, f32 := v.f0, f33 := v.f1, f34 := x.f0, f35 := p.f0, f40 := tm.f0, f41 := tm.f1, f42 := x.f3, f43 := tm.f3 }
def des (p : S0) : S4 := S4.mk p.f32 p.f33 p.f34 p.f35
def wan (id : Int) (p : S0) (b : Bool) : S0 :=
  if p.f29 = 1 then { p with f28 := true, f31 := 4 }
  else if p.f29 = 2 then { p with f28 := p.f28 || !(eqS4 (pri p) (des p)) || !(eqS3 (S3.mk p.f44 p.f45 p.f46 p.f47) (S3.mk p.f40 p.f41 p.f42 p.f43)), f31 := 4 }
  else if p.f29 = 3 then (if b = true then { p with f28 := false, f31 := 3 } else if lt4 (des p) (pri p) = true then { p with f28 := true, f31 := 4 } else if same id p.f38 = true then { p with f28 := false, f31 := 2 } else { p with f28 := false, f31 := 1 })
  else { p with f31 := 0 }

theorem g28_eq {x : S5} {id : Int} {p : S0} {b : Bool} (h0 : x.f0 = id) (hid : U64 id) (hp : Vok (pri p)) (hd : Vok (des p)) : g28 x p b = wan id p b := by
  have hb2 : U64 p.f38 := hp.2.2.1
  have e : g23 x p.f38 = same id p.f38 := by rw [addr_eq (by rw [h0]; exact hid) hb2, h0]; rfl
  simp only [g28, g28T, gett_br, gett_leaf, e, show g36 (S4.mk p.f32 p.f33 p.f34 p.f35) (S4.mk p.f36 p.f37 p.f38 p.f39) = lt4 (des p) (pri p) from g36_eq hd hp, or_cond]
  unfold wan
  by_cases a1 : p.f29 = 1
  · simp only [a1, beq_self_eq_true, cond_true, if_true]
  by_cases a2 : p.f29 = 2
  · simp only [a2, beq_self_eq_true, cond_true, if_true, beq_eq_false_iff_ne.mpr a1, cond_false, if_neg a1]
    rfl
  by_cases a3 : p.f29 = 3
  · simp only [beq_eq_false_iff_ne.mpr a1, beq_eq_false_iff_ne.mpr a2, cond_false, if_neg a1, if_neg a2]
    simp only [a3, beq_self_eq_true, cond_true, if_true]
    cases b <;> cases lt4 (des p) (pri p) <;> cases same id p.f38 <;> rfl
  · simp only [beq_eq_false_iff_ne.mpr a1, beq_eq_false_iff_ne.mpr a2, beq_eq_false_iff_ne.mpr a3, cond_false, if_neg a1, if_neg a2, if_neg a3]

theorem g30_eq' {x : S5} {id : Int} {p : S0} {b : Bool} (h0 : x.f0 = id) (hid : U64 id) (hp : Vok (pri p)) : g30 x p b = wan id p b := by
  have hb2 : U64 p.f38 := hp.2.2.1
  have e : g31 p.f38 x.f0 = same id p.f38 := by rw [h0, g31_eq hid hb2]; rfl
  simp only [g30, g30T, gett_br, gett_leaf, e, g18_eq, or_cond, and_cond]
  unfold wan
  by_cases a1 : p.f29 = 1
  · simp only [a1, beq_self_eq_true, cond_true, if_true]
  by_cases a2 : p.f29 = 2
  · simp only [a2, beq_self_eq_true, cond_true, if_true, beq_eq_false_iff_ne.mpr a1, cond_false, if_neg a1]
    rw [Bool.or_assoc, show pri p = S4.mk p.f36 p.f37 p.f38 p.f39 from rfl, show des p = S4.mk p.f32 p.f33 p.f34 p.f35 from rfl]
    cases (!(eqS4 (S4.mk p.f36 p.f37 p.f38 p.f39) (S4.mk p.f32 p.f33 p.f34 p.f35)) || !(eqS3 (S3.mk p.f44 p.f45 p.f46 p.f47) (S3.mk p.f40 p.f41 p.f42 p.f43)))
    · simp only [cond_false, Bool.or_false]; rfl
    · simp only [cond_true, Bool.or_true]; rfl
  by_cases a3 : p.f29 = 3
  · simp only [beq_eq_false_iff_ne.mpr a1, beq_eq_false_iff_ne.mpr a2, cond_false, if_neg a1, if_neg a2]
    simp only [a3, beq_self_eq_true, cond_true, if_true]
    rw [show pri p = S4.mk p.f36 p.f37 p.f38 p.f39 from rfl, show des p = S4.mk p.f32 p.f33 p.f34 p.f35 from rfl]
    cases b <;> cases lt4 (S4.mk p.f32 p.f33 p.f34 p.f35) (S4.mk p.f36 p.f37 p.f38 p.f39) <;> cases same id p.f38 <;> rfl
  · simp only [beq_eq_false_iff_ne.mpr a1, beq_eq_false_iff_ne.mpr a2, beq_eq_false_iff_ne.mpr a3, cond_false, if_neg a1, if_neg a2, if_neg a3]

def set22 (p : S0) : S0 := { p with f22 := true }
theorem set22_wan (id : Int) (p : S0) (b : Bool) : set22 (wan id p b) = wan id (set22 p) b := by
  have e : (set22 p).f29 = p.f29 := rfl
  unfold wan
  rw [e]
  by_cases a1 : p.f29 = 1
  · rw [if_pos a1, if_pos a1]; rfl
  by_cases a2 : p.f29 = 2
  · rw [if_neg a1, if_neg a1, if_pos a2, if_pos a2]; rfl
  by_cases a3 : p.f29 = 3
  · rw [if_neg a1, if_neg a1, if_neg a2, if_neg a2, if_pos a3, if_pos a3, show des (set22 p) = des p from rfl, show pri (set22 p) = pri p from rfl, show (set22 p).f38 = p.f38 from rfl]
    by_cases c : b = true
    · rw [if_pos c, if_pos c]; rfl
    rw [if_neg c, if_neg c]
    by_cases d : lt4 (des p) (pri p) = true
    · rw [if_pos d, if_pos d]; rfl
    rw [if_neg d, if_neg d]
    by_cases f : same id p.f38 = true
    · rw [if_pos f, if_pos f]; rfl
    · rw [if_neg f, if_neg f]; rfl
  · rw [if_neg a1, if_neg a1, if_neg a2, if_neg a2, if_neg a3, if_neg a3]; rfl

/-- A port as it is selected. -/
def wq (x : S5) (v : S4) (tm : S3) (m : Int) (i : Nat) (p : S0) : S0 := wan x.f0 (dq x v tm p) ((i : Int) == m)

theorem loop15 (x : S5) {v : W15_0} {L : List S0} (hl : L.length ≤ 1000) (ho : U64 x.f0) (hL : ∀ p ∈ L, Pok p) (hv : Vok v.a35) (h1 : v.a1 = L.length) (h2 : v.a2 = 0) (h3 : v.a3 = x.f0) (h6 : v.a6 = x.f3) (h36 : v.a36 = L) :
    iter gR15_0 1000000 v = some (false, { v with a2 := (L.length : Int), a36 := L.mapIdx (wq x v.a35 (S3.mk v.a15 v.a16 v.a17 v.a18) v.a0) }) := by
  refine iter_all (fun j => { v with a2 := (j : Int), a36 := mapT (wq x v.a35 (S3.mk v.a15 v.a16 v.a17 v.a18) v.a0) j L }) L.length (fun j hj => ?_) (o := (false, { v with a2 := (L.length : Int), a36 := L.mapIdx (wq x v.a35 (S3.mk v.a15 v.a16 v.a17 v.a18) v.a0) })) (n := 1000000) ?_ (by omega) ?_
  · have hp : L[j]? = some L[j] := List.getElem?_eq_getElem hj
    have hpo := hL L[j] (List.getElem_mem hj)
    have h28 : ∀ (p : S0) (M : List S0), Pok p → g28 (S5.mk v.a3 v.a4 v.a5 v.a6 v.a7 v.a8 v.a9 v.a10 v.a11 v.a12 v.a13 v.a14 v.a15 v.a16 v.a17 v.a18 M) { p with f21 := false, f22 := true, f32 := v.a35.f0, f33 := v.a35.f1, f34 := v.a3, f35 := p.f0, f40 := v.a15, f41 := v.a16, f42 := v.a6, f43 := v.a18 } ((j : Int) == v.a0) = wq x v.a35 (S3.mk v.a15 v.a16 v.a17 v.a18) v.a0 j p := by
      intro p M hpo
      refine (g28_eq (id := x.f0) ?_ ho ?_ ?_).trans ?_
      · exact h3
      · exact hpo.2
      · refine ⟨hv.1, hv.2.1, ?_, hpo.1⟩
        show U64 v.a3
        rw [h3]; exact ho
      · rw [h3, h6]; rfl
    have hs := fun M => h28 L[j] M hpo
    simp only [gR15_0, get_br, h1, mapT_len, mapT_at _ hp, hs, decide_eq_true (show (j : Int) < (L.length : Int) by omega), decide_eq_true (show (0 : Int) ≤ (j : Int) by omega), cond_true, Bool.and_self, Int.toNat_natCast, get_optS, get_leaf, i64_nat (j := j) (by omega), mapT_step _ hp]
  · simp only [gR15_0, get_br, h1, Int.lt_irrefl, decide_false, cond_false, get_leaf, mapT_all]
  · cases v; simp at h2 h36; simp [h2, h36, mapT_zero]

theorem loop16 (x : S5) {v : W16_0} {L : List S0} (hl : L.length ≤ 1000) (ho : U64 x.f0) (hL : ∀ p ∈ L, Pok p) (h1 : v.a1 = 0) (h2 : v.a2 = x.f0) (h5 : v.a5 = x.f3) (h18 : v.a18 = L) (h36 : v.a36 = []) :
    iter gR16_0 1000000 v = some (false, { v with a1 := (L.length : Int), a36 := L.mapIdx (wq x v.a35 (S3.mk v.a14 v.a15 v.a16 v.a17) v.a0) }) := by
  refine iter_all (fun j => { v with a1 := (j : Int), a36 := tkF (wq x v.a35 (S3.mk v.a14 v.a15 v.a16 v.a17) v.a0) j L }) L.length (fun j hj => ?_) (o := (false, { v with a1 := (L.length : Int), a36 := L.mapIdx (wq x v.a35 (S3.mk v.a14 v.a15 v.a16 v.a17) v.a0) })) (n := 1000000) ?_ (by omega) ?_
  · have hp : L[j]? = some L[j] := List.getElem?_eq_getElem hj
    have hpo := hL L[j] (List.getElem_mem hj)
    have h30 : ∀ (p : S0) (M : List S0), Pok p → ({ g30 (S5.mk v.a2 v.a3 v.a4 v.a5 v.a6 v.a7 v.a8 v.a9 v.a10 v.a11 v.a12 v.a13 v.a14 v.a15 v.a16 v.a17 M) { p with f21 := false, f32 := v.a35.f0, f33 := v.a35.f1, f34 := v.a2, f35 := p.f0, f40 := v.a14, f41 := v.a15, f42 := v.a5, f43 := v.a17 } ((j : Int) == v.a0) with f22 := true } : S0) = wq x v.a35 (S3.mk v.a14 v.a15 v.a16 v.a17) v.a0 j p := by
      intro p M hpo
      refine (congrArg set22 (g30_eq' (id := x.f0) ?_ ho ?_)).trans ((set22_wan _ _ _).trans ?_)
      · exact h2
      · exact hpo.2
      · rw [h2, h5]; rfl
    have hs := fun M => h30 L[j] M hpo
    simp only [gR16_0, get_br, h18, hs, tkF_len _ (Nat.le_of_lt hj), hp, decide_eq_true (show (j : Int) < (L.length : Int) by omega), decide_eq_true (show (0 : Int) ≤ (j : Int) by omega), cond_true, Int.toNat_natCast, get_optS, get_leaf, room_small (show 248 ≤ 1000000 by omega) (show j + 1 ≤ 1000 by omega), i64_nat (j := j) (by omega), tkF_step _ hp]
  · simp only [gR16_0, get_br, h18, Int.lt_irrefl, decide_false, cond_false, get_leaf, tkF_all]
  · cases v; simp at h1 h36; simp [h1, h36, tkF_zero]

def selT (x : S5) (m : Int) : S3 := match x.f16[m.toNat]? with
  | some q => if 0 ≤ m then g27 (S3.mk q.f44 q.f45 q.f46 q.f47) else S3.mk x.f1 x.f2 x.f3 x.f4
  | none => S3.mk x.f1 x.f2 x.f3 x.f4
def selP (x : S5) (m : Int) : Int := match x.f16[m.toNat]? with
  | some q => if 0 ≤ m then q.f0 else 0
  | none => 0
def sel (x : S5) : S5 :=
  let s := rt x.f16 x.f0 x.f16.length
  { x with f7 := selP x s.2, f8 := s.1.f0, f9 := s.1.f1, f10 := s.1.f2, f11 := s.1.f3, f12 := (selT x s.2).f0, f13 := (selT x s.2).f1, f14 := (selT x s.2).f2, f15 := (selT x s.2).f3, f16 := x.f16.mapIdx (wq x s.1 (selT x s.2) s.2) }

theorem g15_eq {x : S5} (ho : Tok x) (hl : x.f16.length ≤ 1000) : g15 x = some (sel x) := by
  have b := rt_best (L := x.f16) (id := x.f0) (j := x.f16.length) (Nat.le_refl _)
  have hv := b.ok ho.1 ho.2
  simp only [g15, g15T, get_br, clone_small (c := 0) x.f16 (show 248 ≤ 1000000 by omega) hl, Bool.or_true, cond_true, loop11 rfl ho hl, get_optS]
  unfold sel
  generalize rt x.f16 x.f0 x.f16.length = s at *
  rcases b.at_ with ⟨h1, h2⟩ | ⟨k, q, h1, h2, h3, _, _⟩
  · rw [decide_eq_false (show ¬ s.2 ≥ 0 by omega)]
    simp only [cond_false, get_opt]
    rw [loop15 x hl ho.1 ho.2 hv rfl rfl rfl rfl rfl]
    simp only [Option.bind_some, get_br, cond_false, get_leaf]
    have e1 : selT x s.2 = S3.mk x.f1 x.f2 x.f3 x.f4 := by
      unfold selT; split
      · rw [if_neg (by omega)]
      · rfl
    have e2 : selP x s.2 = 0 := by
      unfold selP; split
      · rw [if_neg (by omega)]
      · rfl
    rw [e1, e2]
  · rw [h1, decide_eq_true (show (k : Int) ≥ 0 by omega)]
    simp only [cond_true, decide_eq_true (show (k : Int) < (x.f16.length : Int) by omega), Bool.and_true, Int.toNat_natCast, h3, get_optS, get_br]
    rw [get_opt, loop15 x hl ho.1 ho.2 hv rfl rfl rfl rfl rfl]
    simp only [Option.bind_some, get_br, cond_false, get_leaf]
    have e1 : selT x (k : Int) = g27 (S3.mk q.f44 q.f45 q.f46 q.f47) := by
      unfold selT; rw [Int.toNat_natCast, h3]; simp only; rw [if_pos (by omega)]
    have e2 : selP x (k : Int) = q.f0 := by
      unfold selP; rw [Int.toNat_natCast, h3]; simp only; rw [if_pos (by omega)]
    rw [h1, e1, e2]

theorem g16_eq {x : S5} (ho : Tok x) (hl : x.f16.length ≤ 1000) : g16 x = some (sel x) := by
  have b := rt_best (L := x.f16) (id := x.f0) (j := x.f16.length) (Nat.le_refl _)
  have e27 : ∀ t, g29 t = g27 t := fun t => rfl
  simp only [g16, g16T, get_br, loop12 rfl ho hl, get_optS, e27]
  unfold sel
  generalize rt x.f16 x.f0 x.f16.length = s at *
  rcases b.at_ with ⟨h1, h2⟩ | ⟨k, q, h1, h2, h3, _, _⟩
  · rw [decide_eq_false (show ¬ s.2 ≥ 0 by omega)]
    simp only [cond_false, get_opt]
    rw [loop16 x hl ho.1 ho.2 rfl rfl rfl rfl rfl]
    simp only [Option.bind_some, get_br, cond_false, get_leaf]
    have e1 : selT x s.2 = S3.mk x.f1 x.f2 x.f3 x.f4 := by
      unfold selT; split
      · rw [if_neg (by omega)]
      · rfl
    have e2 : selP x s.2 = 0 := by
      unfold selP; split
      · rw [if_neg (by omega)]
      · rfl
    rw [e1, e2]
  · rw [h1, decide_eq_true (show (k : Int) ≥ 0 by omega)]
    simp only [cond_true, decide_eq_true (show (0 : Int) ≤ (k : Int) by omega), Int.toNat_natCast, h3, get_optS, get_br]
    rw [get_opt, loop16 x hl ho.1 ho.2 rfl rfl rfl rfl rfl]
    simp only [Option.bind_some, get_br, cond_false, get_leaf]
    have e1 : selT x (k : Int) = g27 (S3.mk q.f44 q.f45 q.f46 q.f47) := by
      unfold selT; rw [Int.toNat_natCast, h3]; simp only; rw [if_pos (by omega)]
    have e2 : selP x (k : Int) = q.f0 := by
      unfold selP; rw [Int.toNat_natCast, h3]; simp only; rw [if_pos (by omega)]
    rw [h1, e1, e2]

theorem sel_len (x : S5) : (sel x).f16.length = x.f16.length := by simp [sel]

theorem law4 {x : S5} (ho : Tok x) : g4 x = some true := by
  obtain ⟨y, hy, hl, ht⟩ := few_ok x
  have ho := ht ho
  simp only [g4, g4T, hy, get_optS, g15_eq ho (by omega), g16_eq ho (by omega), same_self (sel y) (by rw [sel_len]; omega), get_br, cond_true, awake_true, get_leaf]

end Ab12
