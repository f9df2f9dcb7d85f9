/- Seat 09: the plain laws, second part: what becomes of any tree. -/
import Derived.Test.YtcfdoigiopdnmaaAb09c
set_option maxRecDepth 100000
set_option maxHeartbeats 1000000
set_option linter.unusedVariables false
set_option linter.unusedSimpArgs false
namespace Ab09
open Go Ab

/-! ### One second -/
def tk (_ : Nat) (p : S1) : S1 := { p with f64 := g38 p.f64, f65 := g38 p.f65, f66 := g38 p.f66, f67 := g38 p.f67, f68 := g38 p.f68, f69 := g38 p.f69, f70 := g38 p.f70, f71 := g38 p.f71 }

theorem loop16 {v : W16_0} {L : List S1} (hl : L.length ≤ 1000) (h0 : v.a0 = 0) (h33 : v.a33 = L) :
    iter gR16_0 1000000 v = some (false, { v with a0 := (L.length : Int), a33 := L.mapIdx tk }) := by
  refine iter_all (fun j => { v with a0 := (j : Int), a33 := mapT tk j L }) L.length (fun j hj => ?_) (o := (false, { v with a0 := (L.length : Int), a33 := L.mapIdx tk })) (n := 1000000) ?_ (by omega) ?_
  · have hp : L[j]? = some L[j] := List.getElem?_eq_getElem hj
    have hs : ∀ p : S1, ({ p with f64 := g38 p.f64, f65 := g38 p.f65, f66 := g38 p.f66, f67 := g38 p.f67, f68 := g38 p.f68, f69 := g38 p.f69, f70 := g38 p.f70, f71 := g38 p.f71 } : S1) = tk j p := fun _ => rfl
    simp only [gR16_0, get_br, mapT_len, mapT_at _ hp, hs, decide_eq_true (show (j : Int) < (L.length : Int) by omega), decide_eq_true (show (0 : Int) ≤ (j : Int) by omega), cond_true, Bool.and_self, Int.toNat_natCast, get_optS, get_leaf, i64_nat (j := j) (by omega), mapT_step _ hp]
  · simp only [gR16_0, get_br, mapT_all, List.length_mapIdx, Int.lt_irrefl, decide_false, cond_false, get_leaf]
  · cases v; simp at h0 h33; simp [h0, h33, mapT_zero]

def tick (x : S7) : S7 := { x with f16 := x.f16.mapIdx tk }
theorem tick_eq {x : S7} (hl : x.f16.length ≤ 1000) : g16 x = some (tick x) := by
  simp only [g16, g16T, copy_eq hl, get_optS]
  rw [get_opt, loop16 hl rfl rfl]
  simp only [Option.bind_some, get_br, cond_false, get_leaf]
  rfl

/-- One counter less. -/
def ct0 (q : S1) : S1 := { q with f65 := g38 q.f65 }
def ct1 (q : S1) : S1 := { q with f66 := g38 q.f66 }
def ct2 (q : S1) : S1 := { q with f67 := g38 q.f67 }
def ct3 (q : S1) : S1 := { q with f68 := g38 q.f68 }
def ct4 (q : S1) : S1 := { q with f69 := g38 q.f69 }
def ct5 (q : S1) : S1 := { q with f70 := g38 q.f70 }
def ct6 (q : S1) : S1 := { q with f71 := g38 q.f71 }
def ct7 (q : S1) : S1 := { q with f64 := g38 q.f64 }
def sj (j : Nat) (q : S1) : S1 := if j = 0 then ct0 q else if j = 1 then ct1 q else if j = 2 then ct2 q else if j = 3 then ct3 q else if j = 4 then ct4 q else if j = 5 then ct5 q else if j = 6 then ct6 q else if j = 7 then ct7 q else q
def dk : Nat → S1 → S1
  | 0, p => p
  | j + 1, p => sj j (dk j p)
theorem dk_all (j : Nat) (p : S1) : dk 8 p = tk j p := by kernel_rfl
theorem less0 {n : Int} (h : (n == 0) = true) : g38 n = n := by
  simp only [g38, g38T, gett_br, gett_leaf, h, cond_true]
  exact (eq_of_beq h).symm
theorem less1 {n : Int} (h : (n == 0) = false) : g38 n = IntKind.u8.wrap (n - 1) := by
  simp only [g38, g38T, gett_br, gett_leaf, h, cond_false]
theorem getset {L : List S1} {i : Nat} {p q : S1} (h : L[i]? = some p) : (L.set i q)[i]? = some q := by
  have : i < L.length := (List.getElem?_eq_some_iff.mp h).1
  rw [List.getElem?_set, if_pos rfl, if_pos this]

theorem wr1 : IntKind.i64.wrap 1 = 1 := by decide
theorem wr2 : IntKind.i64.wrap 2 = 2 := by decide
theorem wr3 : IntKind.i64.wrap 3 = 3 := by decide
theorem wr4 : IntKind.i64.wrap 4 = 4 := by decide
theorem wr5 : IntKind.i64.wrap 5 = 5 := by decide
theorem wr6 : IntKind.i64.wrap 6 = 6 := by decide
theorem wr7 : IntKind.i64.wrap 7 = 7 := by decide
theorem wr8 : IntKind.i64.wrap 8 = 8 := by decide

theorem loop15i {v : W15_2} {L : List S1} {i : Nat} {p : S1} (hp : L[i]? = some p) (h0 : v.a40 = 0) (h73 : v.a73 = L) (h32 : v.a32 = i) (h33 : v.a33 = i) (h34 : v.a34 = i) (h35 : v.a35 = i) (h36 : v.a36 = i) (h37 : v.a37 = i) (h38 : v.a38 = i) (h39 : v.a39 = i) :
    iter gR15_2 1000000 v = some (false, { v with a40 := 8, a73 := L.set i (tk 0 p) }) := by
  have e0 : L.set i (dk 0 p) = L := set_self hp
  have hg : ∀ q : S1, (L.set i q)[i]? = some q := fun q => getset hp
  refine iter_all (fun j => { v with a40 := (j : Int), a73 := L.set i (dk j p) }) 8 (fun j hj => ?_) (o := (false, { v with a40 := 8, a73 := L.set i (tk 0 p) })) (n := 1000000) ?_ (by omega) ?_
  · rcases (by omega : j = 0 ∨ j = 1 ∨ j = 2 ∨ j = 3 ∨ j = 4 ∨ j = 5 ∨ j = 6 ∨ j = 7) with rfl | rfl | rfl | rfl | rfl | rfl | rfl | rfl
    · show (gR15_2 { v with a40 := 0, a73 := L.set i (dk 0 p) }).get? = some (.inl { v with a40 := 1, a73 := L.set i (sj 0 (dk 0 p)) })
      generalize dk 0 p = q
      simp only [gR15_2, get_br, h32, hg, get_optS, Int.reduceLT, Int.reduceLE, Int.reduceAdd, Int.reduceBEq, decide_true, Bool.and_self, cond_true, cond_false, get_leaf, wr1, List.set_set]
      cases h : q.f65 == 0
      · simp only [cond_false, ← less1 h]; rfl
      · simp only [cond_true]
        have : sj 0 q = q := by show ({ q with f65 := g38 q.f65 } : S1) = q; rw [less0 h]
        rw [this]
    · show (gR15_2 { v with a40 := 1, a73 := L.set i (dk 1 p) }).get? = some (.inl { v with a40 := 2, a73 := L.set i (sj 1 (dk 1 p)) })
      generalize dk 1 p = q
      simp only [gR15_2, get_br, h33, hg, get_optS, Int.reduceLT, Int.reduceLE, Int.reduceAdd, Int.reduceBEq, decide_true, Bool.and_self, cond_true, cond_false, get_leaf, wr2, List.set_set]
      cases h : q.f66 == 0
      · simp only [cond_false, ← less1 h]; rfl
      · simp only [cond_true]
        have : sj 1 q = q := by show ({ q with f66 := g38 q.f66 } : S1) = q; rw [less0 h]
        rw [this]
    · show (gR15_2 { v with a40 := 2, a73 := L.set i (dk 2 p) }).get? = some (.inl { v with a40 := 3, a73 := L.set i (sj 2 (dk 2 p)) })
      generalize dk 2 p = q
      simp only [gR15_2, get_br, h34, hg, get_optS, Int.reduceLT, Int.reduceLE, Int.reduceAdd, Int.reduceBEq, decide_true, Bool.and_self, cond_true, cond_false, get_leaf, wr3, List.set_set]
      cases h : q.f67 == 0
      · simp only [cond_false, ← less1 h]; rfl
      · simp only [cond_true]
        have : sj 2 q = q := by show ({ q with f67 := g38 q.f67 } : S1) = q; rw [less0 h]
        rw [this]
    · show (gR15_2 { v with a40 := 3, a73 := L.set i (dk 3 p) }).get? = some (.inl { v with a40 := 4, a73 := L.set i (sj 3 (dk 3 p)) })
      generalize dk 3 p = q
      simp only [gR15_2, get_br, h35, hg, get_optS, Int.reduceLT, Int.reduceLE, Int.reduceAdd, Int.reduceBEq, decide_true, Bool.and_self, cond_true, cond_false, get_leaf, wr4, List.set_set]
      cases h : q.f68 == 0
      · simp only [cond_false, ← less1 h]; rfl
      · simp only [cond_true]
        have : sj 3 q = q := by show ({ q with f68 := g38 q.f68 } : S1) = q; rw [less0 h]
        rw [this]
    · show (gR15_2 { v with a40 := 4, a73 := L.set i (dk 4 p) }).get? = some (.inl { v with a40 := 5, a73 := L.set i (sj 4 (dk 4 p)) })
      generalize dk 4 p = q
      simp only [gR15_2, get_br, h36, hg, get_optS, Int.reduceLT, Int.reduceLE, Int.reduceAdd, Int.reduceBEq, decide_true, Bool.and_self, cond_true, cond_false, get_leaf, wr5, List.set_set]
      cases h : q.f69 == 0
      · simp only [cond_false, ← less1 h]; rfl
      · simp only [cond_true]
        have : sj 4 q = q := by show ({ q with f69 := g38 q.f69 } : S1) = q; rw [less0 h]
        rw [this]
    · show (gR15_2 { v with a40 := 5, a73 := L.set i (dk 5 p) }).get? = some (.inl { v with a40 := 6, a73 := L.set i (sj 5 (dk 5 p)) })
      generalize dk 5 p = q
      simp only [gR15_2, get_br, h37, hg, get_optS, Int.reduceLT, Int.reduceLE, Int.reduceAdd, Int.reduceBEq, decide_true, Bool.and_self, cond_true, cond_false, get_leaf, wr6, List.set_set]
      cases h : q.f70 == 0
      · simp only [cond_false, ← less1 h]; rfl
      · simp only [cond_true]
        have : sj 5 q = q := by show ({ q with f70 := g38 q.f70 } : S1) = q; rw [less0 h]
        rw [this]
    · show (gR15_2 { v with a40 := 6, a73 := L.set i (dk 6 p) }).get? = some (.inl { v with a40 := 7, a73 := L.set i (sj 6 (dk 6 p)) })
      generalize dk 6 p = q
      simp only [gR15_2, get_br, h38, hg, get_optS, Int.reduceLT, Int.reduceLE, Int.reduceAdd, Int.reduceBEq, decide_true, Bool.and_self, cond_true, cond_false, get_leaf, wr7, List.set_set]
      cases h : q.f71 == 0
      · simp only [cond_false, ← less1 h]; rfl
      · simp only [cond_true]
        have : sj 6 q = q := by show ({ q with f71 := g38 q.f71 } : S1) = q; rw [less0 h]
        rw [this]
    · show (gR15_2 { v with a40 := 7, a73 := L.set i (dk 7 p) }).get? = some (.inl { v with a40 := 8, a73 := L.set i (sj 7 (dk 7 p)) })
      generalize dk 7 p = q
      simp only [gR15_2, get_br, h39, hg, get_optS, Int.reduceLT, Int.reduceLE, Int.reduceAdd, Int.reduceBEq, decide_true, Bool.and_self, cond_true, cond_false, get_leaf, wr8, List.set_set]
      cases h : q.f64 == 0
      · simp only [cond_false, ← less1 h]; rfl
      · simp only [cond_true]
        have : sj 7 q = q := by show ({ q with f64 := g38 q.f64 } : S1) = q; rw [less0 h]
        rw [this]
  · show (gR15_2 { v with a40 := 8, a73 := L.set i (dk 8 p) }).get? = some (.inr (false, { v with a40 := 8, a73 := L.set i (tk 0 p) }))
    rw [dk_all 0 p]
    simp only [gR15_2, get_br, Int.reduceLT, decide_false, cond_false, get_leaf]
  · rw [e0]; cases v; simp at h0 h73; simp [h0, h73]

theorem loop15 {v : W15_0} {L : List S1} (hl : L.length ≤ 1000) (h0 : v.a0 = L.length) (h1 : v.a1 = 0) (h34 : v.a34 = L) :
    iter gR15_0 1000000 v = some (false, { v with a1 := (L.length : Int), a34 := L.mapIdx tk }) := by
  refine iter_all (fun j => { v with a1 := (j : Int), a34 := mapT tk j L }) L.length (fun j hj => ?_) (o := (false, { v with a1 := (L.length : Int), a34 := L.mapIdx tk })) (n := 1000000) ?_ (by omega) ?_
  · have hp : L[j]? = some L[j] := List.getElem?_eq_getElem hj
    have hs := mapT_step tk hp
    have hs' : (mapT tk j L).set j (tk 0 L[j]) = mapT tk (j + 1) L := hs
    simp only [gR15_0, get_br, h0, mapT_len, decide_eq_true (show (j : Int) < (L.length : Int) by omega), decide_eq_true (show (0 : Int) ≤ (j : Int) by omega), cond_true, Bool.and_self, Int.toNat_natCast]
    rw [get_opt, loop15i (L := mapT tk j L) (i := j) (p := L[j]) (mapT_at _ hp) rfl rfl rfl rfl rfl rfl rfl rfl rfl rfl]
    simp only [Option.bind_some, get_br, cond_false, get_leaf, i64_nat (j := j) (by omega), hs']
    try rw [← h0]
  · simp only [gR15_0, get_br, h0, Int.lt_irrefl, decide_false, cond_false, get_leaf, mapT_all]
  · cases v; simp at h1 h34; simp [h1, h34, mapT_zero]

theorem tick_eq' {x : S7} (hl : x.f16.length ≤ 1000) : g15 x = some (tick x) := by
  simp only [g15, g15T, copy_eq' hl, get_optS]
  rw [get_opt, loop15 hl rfl rfl rfl]
  simp only [Option.bind_some, get_br, cond_false, get_leaf]
  rfl
theorem tick_len (x : S7) : (tick x).f16.length = x.f16.length := by
  show (x.f16.mapIdx tk).length = _
  simp
theorem all24_len (x : S7) : (all24 x).f16.length = x.f16.length := by
  show (x.f16.mapIdx pt24).length = _
  simp
theorem all20_len (x : S7) : (all20 x).f16.length = x.f16.length := by
  show (x.f16.mapIdx pt20).length = _
  simp

/-! ### Up or down -/
def up (x : S7) (n : Int) (b : Bool) : S7 := match x.f16[n.toNat]? with
  | some p => bif g37 x n then wth x n { p with f2 := b } else x
  | none => x
theorem up_len (x : S7) (n : Int) (b : Bool) : (up x n b).f16.length = x.f16.length := by
  unfold up
  split
  · cases g37 x n
    · rfl
    · exact wth_len ..
  · rfl
theorem up_eq {x : S7} {n : Int} {b : Bool} (hl : x.f16.length ≤ 1000) : g14 x n b = some (up x n b) := by
  unfold up
  by_cases h : In x n
  · obtain ⟨p, hp, _⟩ := h.at
    simp only [g14, g14T, copy_eq hl, get_optS, h.q, get_br, cond_true, decide_eq_true h.1, decide_eq_true h.2, Bool.and_self, hp, get_leaf]
    rfl
  · simp only [g14, g14T, copy_eq hl, get_optS, out_q h, get_br, cond_false, get_leaf]
    split <;> rfl
theorem up_eq' {x : S7} {n : Int} {b : Bool} (hl : x.f16.length ≤ 1000) : g13 x n b = some (up x n b) := by
  have e : ∀ n, g35 x n = g37 x n := fun _ => rfl
  unfold up
  by_cases h : In x n
  · obtain ⟨p, hp, _⟩ := h.at
    simp only [g13, g13T, copy_eq' hl, get_optS, e, h.q, get_br, cond_true, decide_eq_true h.1, decide_eq_true h.2, Bool.and_self, hp, get_leaf]
    rfl
  · simp only [g13, g13T, copy_eq' hl, get_optS, e, out_q h, get_br, cond_false, get_leaf]
    split <;> rfl

theorem law4 (x : S7) (n : Int) (b : Bool) : g4 x n b = some true := by
  obtain ⟨y, hy, hl⟩ := few_ok x
  have hl' : y.f16.length ≤ 1000 := by omega
  simp only [g4, g4T, hy, get_optS, up_eq hl', up_eq' hl', tick_eq hl', tick_eq' hl', copy_eq' hl', sync_eq hl', sync_eq' hl', re_eq hl', re_eq' hl',
    same_self (up y n b) (by rw [up_len]; omega), same_self (tick y) (by rw [tick_len]; omega), same_self y hl', same_self (all24 y) (by rw [all24_len]; omega), same_self (all20 y) (by rw [all20_len]; omega),
    get_br, cond_true, awake_true, get_leaf]
end Ab09
