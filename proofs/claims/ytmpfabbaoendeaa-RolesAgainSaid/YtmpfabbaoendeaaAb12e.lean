/- Seat 12: the plain laws, third part. -/
import Derived.Test.YtmpfabbaoendeaaAb12d
set_option maxRecDepth 100000
set_option maxHeartbeats 1000000
set_option linter.unusedVariables false
set_option linter.unusedSimpArgs false
namespace Ab12
open Go Ab

theorem wan29 (id : Int) (p : S0) (b : Bool) : (wan id p b).f29 = p.f29 := by unfold wan; (repeat' split) <;> rfl
theorem wan_pri (id : Int) (p : S0) (b : Bool) : pri (wan id p b) = pri p := by unfold wan; (repeat' split) <;> rfl
theorem wan_des (id : Int) (p : S0) (b : Bool) : des (wan id p b) = des p := by unfold wan; (repeat' split) <;> rfl
theorem wan1 (id : Int) (p : S0) (b : Bool) : (wan id p b).f1 = p.f1 := by unfold wan; (repeat' split) <;> rfl
theorem wan0 (id : Int) (p : S0) (b : Bool) : (wan id p b).f0 = p.f0 := by unfold wan; (repeat' split) <;> rfl
theorem wan21 (id : Int) (p : S0) (b : Bool) : (wan id p b).f21 = p.f21 := by unfold wan; (repeat' split) <;> rfl
theorem wan22 (id : Int) (p : S0) (b : Bool) : (wan id p b).f22 = p.f22 := by unfold wan; (repeat' split) <;> rfl
theorem wan44 (id : Int) (p : S0) (b : Bool) : S3.mk (wan id p b).f44 (wan id p b).f45 (wan id p b).f46 (wan id p b).f47 = S3.mk p.f44 p.f45 p.f46 p.f47 := by unfold wan; (repeat' split) <;> rfl

theorem rt_root {x : S5} (ho : Tok x) : ∃ s, rt x.f16 x.f0 x.f16.length = s ∧ Best x.f16 x.f0 x.f16.length s ∧ Vok s.1 :=
  ⟨_, rfl, rt_best (Nat.le_refl _), (rt_best (Nat.le_refl _)).ok ho.1 ho.2⟩

theorem dq_pok {x : S5} {v : S4} {tm : S3} {p : S0} (h : Pok p) : Pok (dq x v tm p) := h
theorem wq_pri (x : S5) (v : S4) (tm : S3) (m : Int) (i : Nat) (p : S0) : pri (wq x v tm m i p) = pri p := by unfold wq; rw [wan_pri]; rfl
theorem wq_pok {x : S5} {v : S4} {tm : S3} {m : Int} {i : Nat} {p : S0} (h : Pok p) : Pok (wq x v tm m i p) := by
  refine ⟨?_, by rw [wq_pri]; exact h.2⟩
  unfold wq; rw [wan0]; exact h.1

/-! ### What fits -/
theorem law7 {x : S5} (ho : Tok x) : g7 x = some true := by
  obtain ⟨y, hy, hl, ht⟩ := few_ok x
  have ho := ht ho
  obtain ⟨s, hs, hb, hv⟩ := rt_root ho
  simp only [g7, g7T, hy, get_optS, g15_eq ho (by omega)]
  unfold sel
  rw [hs]
  simp only
  have key : ∀ v : W7_0, v.a1 = 0 → v.a2 = y.f0 → v.a10 = s.1.f0 → v.a11 = s.1.f1 → v.a18 = y.f16.mapIdx (wq y s.1 (selT y s.2) s.2) → iter gR7_0 1000000 v = some (false, { v with a1 := (y.f16.length : Int) }) := by
    intro v h1 h2 h10 h11 h18
    refine iter_all (fun j => { v with a1 := (j : Int) }) y.f16.length (fun j hj => ?_) (o := (false, { v with a1 := (y.f16.length : Int) })) (n := 1000000) ?_ (by omega) ?_
    · have hp : y.f16[j]? = some y.f16[j] := List.getElem?_eq_getElem hj
      have hpo := ho.2 y.f16[j] (List.getElem_mem hj)
      have hq : (y.f16.mapIdx (wq y s.1 (selT y s.2) s.2))[j]? = some (wq y s.1 (selT y s.2) s.2 j y.f16[j]) := by rw [List.getElem?_mapIdx, hp]; rfl
      have hlen : (y.f16.mapIdx (wq y s.1 (selT y s.2) s.2)).length = y.f16.length := by simp
      simp only [gR7_0, h18, hlen, get_br, decide_eq_true (show (j : Int) < (y.f16.length : Int) by omega), decide_eq_true (show (0 : Int) ≤ (j : Int) by omega), cond_true, Int.toNat_natCast, hq, get_optS, g18_eq, or_cond, and_cond]
      generalize hw : wq y s.1 (selT y s.2) s.2 j y.f16[j] = q
      have q21 : q.f21 = false := by rw [← hw]; unfold wq; rw [wan21]; rfl
      have q22 : q.f22 = true := by rw [← hw]; unfold wq; rw [wan22]; rfl
      have qd : des q = des (dq y s.1 (selT y s.2) y.f16[j]) := by rw [← hw]; unfold wq; rw [wan_des]
      have q0 : q.f0 = y.f16[j].f0 := by rw [← hw]; unfold wq; rw [wan0]; rfl
      have e34 : q.f34 = v.a2 := by have := congrArg S4.f2 qd; rw [h2]; exact this
      have e32 : q.f32 = v.a10 := by have := congrArg S4.f0 qd; rw [h10]; exact this
      have e33 : q.f33 = v.a11 := by have := congrArg S4.f1 qd; rw [h11]; exact this
      have e35 : q.f35 = q.f0 := by have := congrArg S4.f3 qd; rw [q0]; exact this
      have own : ((q.f29 == 2 || q.f29 == 1) && q.f31 != 4) = false := by
        by_cases a1 : y.f16[j].f29 = 1
        · have : q.f31 = 4 := by rw [← hw]; unfold wq wan; rw [if_pos (show (dq y s.1 (selT y s.2) y.f16[j]).f29 = 1 from a1)]
          rw [this]; simp
        by_cases a2 : y.f16[j].f29 = 2
        · have : q.f31 = 4 := by rw [← hw]; unfold wq wan; rw [if_neg (show ¬ (dq y s.1 (selT y s.2) y.f16[j]).f29 = 1 from a1), if_pos (show (dq y s.1 (selT y s.2) y.f16[j]).f29 = 2 from a2)]
          rw [this]; simp
        have : q.f29 = y.f16[j].f29 := by rw [← hw]; unfold wq; rw [wan29]; rfl
        rw [this, beq_eq_false_iff_ne.mpr a1, beq_eq_false_iff_ne.mpr a2]; rfl
      have fit : ((q.f29 == 3 && q.f31 != 3) && !((q.f31 == 4) == lt4 (S4.mk q.f32 q.f33 q.f34 q.f35) (S4.mk q.f36 q.f37 q.f38 q.f39))) = false := by
        have e29 : q.f29 = y.f16[j].f29 := by rw [← hw]; unfold wq; rw [wan29]; rfl
        by_cases a3 : y.f16[j].f29 = 3
        · have a1 : ¬ (dq y s.1 (selT y s.2) y.f16[j]).f29 = 1 := by show ¬ y.f16[j].f29 = 1; omega
          have a2 : ¬ (dq y s.1 (selT y s.2) y.f16[j]).f29 = 2 := by show ¬ y.f16[j].f29 = 2; omega
          have e1 : S4.mk q.f32 q.f33 q.f34 q.f35 = des (dq y s.1 (selT y s.2) y.f16[j]) := qd
          have e2 : S4.mk q.f36 q.f37 q.f38 q.f39 = pri (dq y s.1 (selT y s.2) y.f16[j]) := by
            show pri q = _
            rw [← hw]; unfold wq; rw [wan_pri]
          have e31 : q.f31 = (if ((j : Int) == s.2) = true then 3 else if lt4 (des (dq y s.1 (selT y s.2) y.f16[j])) (pri (dq y s.1 (selT y s.2) y.f16[j])) = true then 4 else if same y.f0 (dq y s.1 (selT y s.2) y.f16[j]).f38 = true then 2 else 1) := by
            rw [← hw]; unfold wq wan; rw [if_neg a1, if_neg a2, if_pos (show (dq y s.1 (selT y s.2) y.f16[j]).f29 = 3 from a3)]
            (repeat' split) <;> rfl
          rw [e1, e2, e31]
          cases ((j : Int) == s.2)
          · cases lt4 (des (dq y s.1 (selT y s.2) y.f16[j])) (pri (dq y s.1 (selT y s.2) y.f16[j]))
            · cases same y.f0 (dq y s.1 (selT y s.2) y.f16[j]).f38 <;> simp
            · simp
          · simp
        · rw [e29, beq_eq_false_iff_ne.mpr a3]; rfl
      have n34 : (q.f34 != v.a2) = false := by rw [e34]; simp
      have n32 : (q.f32 != v.a10) = false := by rw [e32]; simp
      have n33 : (q.f33 != v.a11) = false := by rw [e33]; simp
      have n35 : (q.f35 != q.f0) = false := by rw [e35]; simp
      simp only [own, q21, q22, Bool.not_true, Bool.or_self, cond_false, fit, n34, n32, n33, n35, get_br, get_leaf, i64_nat (j := j) (by omega)]
    · have hlen : (y.f16.mapIdx (wq y s.1 (selT y s.2) s.2)).length = y.f16.length := by simp
      simp only [gR7_0, h18, hlen, get_br, Int.lt_irrefl, decide_false, cond_false, get_leaf]
    · cases v; simp at h1; simp [h1]
  rw [get_opt, key _ rfl rfl rfl rfl rfl]
  simp only [Option.bind_some, get_br, cond_false, awake_true, get_optS, get_leaf]

end Ab12
