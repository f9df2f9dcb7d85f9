/- Seat 12: the plain laws, fifth part. -/
import Derived.Test.YtmpfabbaoendeaaAb12f
set_option maxRecDepth 100000
set_option maxHeartbeats 1000000
set_option linter.unusedVariables false
set_option linter.unusedSimpArgs false
namespace Ab12
open Go Ab

def set31 (_ : Nat) (p : S0) : S0 := { p with f31 := 0 }

theorem loop20 {v : W20_0} {L : List S0} (hl : L.length ≤ 1000) (h1 : v.a1 = L.length) (h2 : v.a2 = 0) (h35 : v.a35 = L) :
    iter gR20_0 1000000 v = some (false, { v with a2 := (L.length : Int), a35 := L.mapIdx set31 }) := by
  refine iter_all (fun j => { v with a2 := (j : Int), a35 := mapT set31 j L }) L.length (fun j hj => ?_) (o := (false, { v with a2 := (L.length : Int), a35 := L.mapIdx set31 })) (n := 1000000) ?_ (by omega) ?_
  · have hp : L[j]? = some L[j] := List.getElem?_eq_getElem hj
    have hs : ∀ p : S0, ({ p with f31 := 0 } : S0) = set31 j p := fun _ => rfl
    simp only [gR20_0, get_br, h1, mapT_len, mapT_at _ hp, hs, decide_eq_true (show (j : Int) < (L.length : Int) by omega), decide_eq_true (show (0 : Int) ≤ (j : Int) by omega), cond_true, Bool.and_self, Int.toNat_natCast, get_optS, get_leaf, i64_nat (j := j) (by omega), mapT_step _ hp]
  · simp only [gR20_0, get_br, h1, Int.lt_irrefl, decide_false, cond_false, get_leaf, mapT_all]
  · cases v; simp at h2 h35; simp [h2, h35, mapT_zero]

theorem loop21 {v : W21_0} {L : List S0} (hl : L.length ≤ 1000) (h1 : v.a1 = 0) (h18 : v.a18 = L) (h36 : v.a36 = []) :
    iter gR21_0 1000000 v = some (false, { v with a1 := (L.length : Int), a36 := L.mapIdx set31 }) := by
  refine iter_all (fun j => { v with a1 := (j : Int), a36 := tkF set31 j L }) L.length (fun j hj => ?_) (o := (false, { v with a1 := (L.length : Int), a36 := L.mapIdx set31 })) (n := 1000000) ?_ (by omega) ?_
  · have hp : L[j]? = some L[j] := List.getElem?_eq_getElem hj
    have hs : ∀ p : S0, ({ p with f31 := 0 } : S0) = set31 j p := fun _ => rfl
    simp only [gR21_0, get_br, h18, hp, hs, tkF_len _ (Nat.le_of_lt hj), decide_eq_true (show (j : Int) < (L.length : Int) by omega), decide_eq_true (show (0 : Int) ≤ (j : Int) by omega), cond_true, Int.toNat_natCast, get_optS, get_leaf, room_small (show 248 ≤ 1000000 by omega) (show j + 1 ≤ 1000 by omega), i64_nat (j := j) (by omega), tkF_step _ hp]
  · simp only [gR21_0, get_br, h18, Int.lt_irrefl, decide_false, cond_false, get_leaf, tkF_all]
  · cases v; simp at h1 h36; simp [h1, h36, tkF_zero]

/-- The first port that has changed. -/
def any21 : List S0 → Nat → Bool
  | L, n => (L.drop n).any (fun p => p.f21)

theorem g37_eq {L : List S0} (hl : L.length ≤ 1000) : ∃ n : Int, g37 L = some n ∧ decide (n ≥ 0) = L.any (fun p => p.f21) := by
  simp only [g37, g37T, get_opt]
  by_cases h : ∃ (k : Nat) (p : S0), L[k]? = some p ∧ p.f21 = true ∧ ∀ (i : Nat) q, i < k → L[i]? = some q → q.f21 = false
  · obtain ⟨k, p, hk, ht, hlt⟩ := h
    have hkl : k < L.length := (List.getElem?_eq_some_iff.mp hk).1
    have key : iter gR37_0 1000000 (W37_0.mk L 0 L.length 0) = some (true, { (W37_0.mk L 0 L.length 0) with a1 := (k : Int), a3 := (k : Int) }) := by
      refine iter_all (fun j => W37_0.mk L 0 L.length (j : Int)) k (fun j hj => ?_) (o := (true, W37_0.mk L k L.length k)) (n := 1000000) ?_ (by omega) rfl
      · have hp : L[j]? = some L[j] := List.getElem?_eq_getElem (by omega)
        have hf : g34 L[j] = false := hlt j _ hj hp
        simp only [gR37_0, get_br, decide_eq_true (show (j : Int) < (L.length : Int) by omega), decide_eq_true (show (0 : Int) ≤ (j : Int) by omega), cond_true, Int.toNat_natCast, hp, get_optS, hf, cond_false, get_leaf, i64_nat (j := j) (by omega)]
      · have hf : g34 p = true := ht
        simp only [gR37_0, get_br, decide_eq_true (show (k : Int) < (L.length : Int) by omega), decide_eq_true (show (0 : Int) ≤ (k : Int) by omega), cond_true, Int.toNat_natCast, hk, get_optS, hf, get_leaf]
    rw [key]
    refine ⟨k, by simp only [Option.bind_some, get_br, cond_true, get_leaf], ?_⟩
    rw [decide_eq_true (by omega)]
    symm
    exact List.any_eq_true.mpr ⟨p, List.mem_of_getElem? hk, ht⟩
  · have hall : ∀ (i : Nat) q, L[i]? = some q → q.f21 = false := by
      intro i
      induction i using Nat.strongRecOn with
      | _ i ih =>
        intro q hq
        cases hf : q.f21
        · rfl
        · exact absurd ⟨i, q, hq, hf, fun j r hj hr => ih j hj r hr⟩ h
    have key : iter gR37_0 1000000 (W37_0.mk L 0 L.length 0) = some (false, W37_0.mk L 0 L.length L.length) := by
      refine iter_all (fun j => W37_0.mk L 0 L.length (j : Int)) L.length (fun j hj => ?_) (o := (false, W37_0.mk L 0 L.length L.length)) (n := 1000000) ?_ (by omega) rfl
      · have hp : L[j]? = some L[j] := List.getElem?_eq_getElem (by omega)
        have hf : g34 L[j] = false := hall j _ hp
        simp only [gR37_0, get_br, decide_eq_true (show (j : Int) < (L.length : Int) by omega), decide_eq_true (show (0 : Int) ≤ (j : Int) by omega), cond_true, Int.toNat_natCast, hp, get_optS, hf, cond_false, get_leaf, i64_nat (j := j) (by omega)]
      · simp only [gR37_0, get_br, Int.lt_irrefl, decide_false, cond_false, get_leaf]
    rw [key]
    refine ⟨-1, by simp only [Option.bind_some, get_br, cond_false, get_leaf], ?_⟩
    rw [decide_eq_false (by omega)]
    symm
    rw [List.any_eq_false]
    intro p hp
    obtain ⟨i, hi⟩ := List.mem_iff_getElem?.mp hp
    simp [hall i p hi]

theorem g33_eq {L : List S0} (hl : L.length ≤ 1000) : g33 L = some (L.any (fun p => p.f21)) := by
  obtain ⟨n, h1, h2⟩ := g37_eq hl
  simp only [g33, g33T, h1, get_optS, get_leaf, h2]

/-- One step. -/
def stp (x : S5) : S5 × Bool :=
  if x.f6 = true then (if x.f16.any (fun p => p.f21) = true then (sel x, true) else (x, false))
  else (sel { x with f6 := true, f16 := x.f16.mapIdx set31 }, true)

theorem set31_ok {x : S5} (ho : Tok x) : Tok { x with f6 := true, f16 := x.f16.mapIdx set31 } := by
  refine ⟨ho.1, fun p hp => ?_⟩
  obtain ⟨i, hi, he⟩ := List.mem_mapIdx.mp hp
  rw [← he]
  have h := ho.2 x.f16[i] (List.getElem_mem hi)
  exact h

theorem g20_eq {x : S5} (ho : Tok x) (hl : x.f16.length ≤ 1000) : g20 x = some (stp x) := by
  simp only [g20, g20T, get_br, clone_small (c := 0) x.f16 (show 248 ≤ 1000000 by omega) hl, Bool.or_true, cond_true, g33_eq hl, get_optS]
  unfold stp
  cases h : x.f6 with
  | false =>
    simp only [Bool.not_false, cond_true, Bool.false_eq_true, if_false]
    rw [get_opt, loop20 hl rfl rfl rfl]
    simp only [Option.bind_some, get_br, cond_false]
    rw [get_opt, g15_eq (x := S5.mk _ _ _ _ _ _ _ _ _ _ _ _ _ _ _ _ _) (set31_ok ho) (by simpa using hl)]
    simp only [Option.bind_some, get_leaf]
  | true =>
    simp only [Bool.not_true, cond_false, if_true]
    cases x.f16.any (fun p => p.f21) with
    | true => simp only [cond_true, if_true, g15_eq ho hl, get_optS, get_leaf]
    | false => simp only [cond_false, Bool.false_eq_true, if_false, get_leaf]

theorem g21_eq {x : S5} (ho : Tok x) (hl : x.f16.length ≤ 1000) : g21 x = some (stp x) := by
  simp only [g21, g21T, get_br]
  unfold stp
  cases h : x.f6 with
  | false =>
    simp only [Bool.not_false, cond_true, Bool.false_eq_true, if_false]
    rw [get_opt, loop21 hl rfl rfl rfl]
    simp only [Option.bind_some, get_br, cond_false]
    rw [get_opt, g16_eq (x := S5.mk _ _ _ _ _ _ _ _ _ _ _ _ _ _ _ _ _) (set31_ok ho) (by simpa using hl)]
    simp only [Option.bind_some, get_leaf]
  | true =>
    simp only [Bool.not_true, cond_false, if_true]
    obtain ⟨n, hn⟩ : ∃ n : Int, n = 0 := ⟨0, rfl⟩
    have key : ∀ v : W21_2, v.a1 = 0 → (S5.mk v.a2 v.a3 v.a4 v.a5 v.a6 v.a7 v.a8 v.a9 v.a10 v.a11 v.a12 v.a13 v.a14 v.a15 v.a16 v.a17 v.a18) = x →
        ∃ r, iter gR21_2 1000000 v = some r ∧ r.1 = x.f16.any (fun p => p.f21) ∧ (r.1 = false → (S5.mk r.2.a2 r.2.a3 r.2.a4 r.2.a5 r.2.a6 r.2.a7 r.2.a8 r.2.a9 r.2.a10 r.2.a11 r.2.a12 r.2.a13 r.2.a14 r.2.a15 r.2.a16 r.2.a17 r.2.a18) = x) ∧
          (r.1 = true → r.2.a0 = true ∧ (S5.mk r.2.a19 r.2.a20 r.2.a21 r.2.a22 r.2.a23 r.2.a24 r.2.a25 r.2.a26 r.2.a27 r.2.a28 r.2.a29 r.2.a30 r.2.a31 r.2.a32 r.2.a33 r.2.a34 r.2.a35) = sel x) := by
      intro v h1 hx
      have h18 : v.a18 = x.f16 := congrArg S5.f16 hx
      have step : ∀ (j : Nat) (p : S0), x.f16[j]? = some p → p.f21 = false → j < 1000 → (gR21_2 { v with a1 := (j : Int) }).get? = some (.inl { v with a1 := ((j + 1 : Nat) : Int) }) := by
        intro j p hp hf hj
        have hlt : j < x.f16.length := (List.getElem?_eq_some_iff.mp hp).1
        simp only [gR21_2, get_br, h18, decide_eq_true (show (j : Int) < (x.f16.length : Int) by omega), decide_eq_true (show (0 : Int) ≤ (j : Int) by omega), cond_true, Int.toNat_natCast, hp, get_optS, hf, cond_false, get_leaf, i64_nat (j := j) (by omega)]
      by_cases h : ∃ (k : Nat) (p : S0), x.f16[k]? = some p ∧ p.f21 = true ∧ ∀ (i : Nat) q, i < k → x.f16[i]? = some q → q.f21 = false
      · obtain ⟨k, p, hk, ht, hlt⟩ := h
        have hkl : k < x.f16.length := (List.getElem?_eq_some_iff.mp hk).1
        have := g16_eq ho hl
        refine ⟨_, iter_all (fun j => { v with a1 := (j : Int) }) k (fun j hj => step j _ (List.getElem?_eq_getElem (by omega)) (hlt j _ hj (List.getElem?_eq_getElem (by omega))) (by omega)) (o := (true, { v with a0 := true, a1 := (k : Int), a19 := (sel x).f0, a20 := (sel x).f1, a21 := (sel x).f2, a22 := (sel x).f3, a23 := (sel x).f4, a24 := (sel x).f5, a25 := (sel x).f6, a26 := (sel x).f7, a27 := (sel x).f8, a28 := (sel x).f9, a29 := (sel x).f10, a30 := (sel x).f11, a31 := (sel x).f12, a32 := (sel x).f13, a33 := (sel x).f14, a34 := (sel x).f15, a35 := (sel x).f16 })) (n := 1000000) ?_ (by omega) ?_, ?_, ?_, ?_⟩
        · have hxx : ∀ M, M = x.f16 → (S5.mk v.a2 v.a3 v.a4 v.a5 v.a6 v.a7 v.a8 v.a9 v.a10 v.a11 v.a12 v.a13 v.a14 v.a15 v.a16 v.a17 M) = x := by
            intro M hM; rw [hM, ← h18]; exact hx
          simp only [gR21_2, get_br, h18, hxx x.f16 rfl, g16_eq ho hl, decide_eq_true (show (k : Int) < (x.f16.length : Int) by omega), decide_eq_true (show (0 : Int) ≤ (k : Int) by omega), cond_true, Int.toNat_natCast, hk, get_optS, ht, get_leaf]
        · cases v; simp at h1; simp [h1]
        · symm; exact List.any_eq_true.mpr ⟨p, List.mem_of_getElem? hk, ht⟩
        · intro h; cases h
        · intro _; exact ⟨rfl, rfl⟩
      · have hall : ∀ (i : Nat) q, x.f16[i]? = some q → q.f21 = false := by
          intro i
          induction i using Nat.strongRecOn with
          | _ i ih =>
            intro q hq
            cases hf : q.f21
            · rfl
            · exact absurd ⟨i, q, hq, hf, fun j r hj hr => ih j hj r hr⟩ h
        refine ⟨_, iter_all (fun j => { v with a1 := (j : Int) }) x.f16.length (fun j hj => step j _ (List.getElem?_eq_getElem (by omega)) (hall j _ (List.getElem?_eq_getElem (by omega))) (by omega)) (o := (false, { v with a1 := (x.f16.length : Int) })) (n := 1000000) ?_ (by omega) ?_, ?_, ?_, ?_⟩
        · simp only [gR21_2, get_br, h18, Int.lt_irrefl, decide_false, cond_false, get_leaf]
        · cases v; simp at h1; simp [h1]
        · symm
          rw [List.any_eq_false]
          intro p hp
          obtain ⟨i, hi⟩ := List.mem_iff_getElem?.mp hp
          simp [hall i p hi]
        · intro _; exact hx
        · intro h; cases h
    obtain ⟨r, hr, h1, h2, h3⟩ := key (W21_2.mk (false) (0) (x.f0) (x.f1) (x.f2) (x.f3) (x.f4) (x.f5) (x.f6) (x.f7) (x.f8) (x.f9) (x.f10) (x.f11) (x.f12) (x.f13) (x.f14) (x.f15) (x.f16) (0) (0) (0) (0) (0) (0) (false) (0) (0) (0) (0) (0) (0) (0) (0) (0) ([])) rfl rfl
    rw [h] at hr
    rw [get_opt, hr]
    simp only [Option.bind_some, get_br, get_leaf]
    rw [← h1]
    cases hb : r.1 with
    | true => rw [(h3 hb).1, (h3 hb).2]; rfl
    | false => rw [h2 hb]; rfl

theorem stp_len (x : S5) : (stp x).1.f16.length = x.f16.length := by
  unfold stp; repeat' split
  all_goals simp [sel_len]

theorem law8 {x : S5} (ho : Tok x) : g8 x = some true := by
  obtain ⟨y, hy, hl, ht⟩ := few_ok x
  have ho := ht ho
  simp only [g8, g8T, hy, get_optS, get_br, g20_eq ho (by omega), room_small (show 248 ≤ 1000000 by omega) (show 0 + y.f16.length ≤ 1000 by omega)]
  have hsame := same_self (stp y).1 (by rw [stp_len]; omega)
  have hsame' := same_self y (by omega)
  cases he : y.f16.isEmpty with
  | true =>
    have e : { y with f16 := [] } = y := by
      rw [List.isEmpty_iff] at he
      cases y; simp at he; simp [he]
    simp only [cond_true]
    rw [e]
    simp only [g21_eq ho (by omega), get_optS, hsame, hsame', cond_true, beq_self_eq_true, get_br, awake_true, get_leaf]
  | false =>
    simp only [cond_false, cond_true, g21_eq ho (by omega), get_optS, hsame, hsame', beq_self_eq_true, get_br, awake_true, get_leaf]

/-! ### Once more -/
theorem wan_wan (id : Int) (p : S0) (b : Bool) (v : S4) (tm : S3) (x : S5) : wan id (dq x v tm (wan id (dq x v tm p) b)) b = wan id (dq x v tm p) b := by
  obtain ⟨q, hq⟩ : ∃ q, q = dq x v tm p := ⟨_, rfl⟩
  have hd : dq x v tm (wan id q b) = wan id q b := by
    rw [hq]
    unfold wan
    repeat' split
    all_goals rfl
  rw [← hq, hd]
  have e29 := wan29 id q b
  have ep := wan_pri id q b
  have ed := wan_des id q b
  by_cases a1 : q.f29 = 1
  · have e : wan id q b = { q with f28 := true, f31 := 4 } := by unfold wan; rw [if_pos a1]
    rw [e]; unfold wan; rw [if_pos (show ({ q with f28 := true, f31 := 4 } : S0).f29 = 1 from a1)]
  by_cases a2 : q.f29 = 2
  · have e : wan id q b = { q with f28 := q.f28 || !(eqS4 (pri q) (des q)) || !(eqS3 (S3.mk q.f44 q.f45 q.f46 q.f47) (S3.mk q.f40 q.f41 q.f42 q.f43)), f31 := 4 } := by unfold wan; rw [if_neg a1, if_pos a2]
    rw [e]
    generalize ha : (!(eqS4 (pri q) (des q))) = a
    generalize hc : (!(eqS3 (S3.mk q.f44 q.f45 q.f46 q.f47) (S3.mk q.f40 q.f41 q.f42 q.f43))) = c
    have e' : wan id { q with f28 := q.f28 || a || c, f31 := 4 } b = { q with f28 := (q.f28 || a || c) || !(eqS4 (pri q) (des q)) || !(eqS3 (S3.mk q.f44 q.f45 q.f46 q.f47) (S3.mk q.f40 q.f41 q.f42 q.f43)), f31 := 4 } := by
      unfold wan
      rw [if_neg (show ¬ ({ q with f28 := q.f28 || a || c, f31 := 4 } : S0).f29 = 1 from a1), if_pos (show ({ q with f28 := q.f28 || a || c, f31 := 4 } : S0).f29 = 2 from a2)]
      rfl
    rw [e', ha, hc]
    cases q.f28 <;> cases a <;> cases c <;> rfl
  by_cases a3 : q.f29 = 3
  · have e : ∀ r : S0, r.f29 = 3 → wan id r b = (if b = true then { r with f28 := false, f31 := 3 } else if lt4 (des r) (pri r) = true then { r with f28 := true, f31 := 4 } else if same id r.f38 = true then { r with f28 := false, f31 := 2 } else { r with f28 := false, f31 := 1 }) := by
      intro r hr
      unfold wan; rw [if_neg (by omega), if_neg (by omega), if_pos hr]
    rw [e (wan id q b) (by rw [e29]; exact a3), ep, ed, show (wan id q b).f38 = q.f38 from congrArg S4.f2 ep, e q a3]
    by_cases c : b = true
    · rw [if_pos c, if_pos c]
    rw [if_neg c, if_neg c]
    by_cases d : lt4 (des q) (pri q) = true
    · rw [if_pos d, if_pos d]
    rw [if_neg d, if_neg d]
    by_cases f : same id q.f38 = true
    · rw [if_pos f, if_pos f]
    · rw [if_neg f, if_neg f]
  · have e : ∀ r : S0, r.f29 = q.f29 → wan id r b = { r with f31 := 0 } := by
      intro r hr
      unfold wan; rw [if_neg (by omega), if_neg (by omega), if_neg (by omega)]
    rw [e (wan id q b) e29, e q rfl]

end Ab12
