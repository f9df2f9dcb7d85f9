/- Seat 09: the plain laws, last part: which settings may be. -/
import Derived.Test.YtcfdoigiopdnmaaAb09f
set_option maxRecDepth 100000
set_option maxHeartbeats 1000000
set_option linter.unusedVariables false
set_option linter.unusedSimpArgs false
namespace Ab09
open Go Ab

def U64 (n : Int) : Prop := 0 ≤ n ∧ n ≤ 18446744073709551615
structure Cok (x : S5) : Prop where
  id : U64 x.f0
  a : B8 x.f1
  b : B8 x.f2
  c : B8 x.f3
  d : B8 x.f4
theorem cok_of {x : S5} (h : All2 (CK.has kd) ks5 (enc5 x)) : Cok x :=
  ⟨rg_u64 (fldM h 0 rfl rfl), rg_u8 (fldM h 1 rfl rfl), rg_u8 (fldM h 2 rfl rfl), rg_u8 (fldM h 3 rfl rfl), rg_u8 (fldM h 4 rfl rfl)⟩

theorem not_lt' (a b : Int) : decide (a < b) = !decide (a ≥ b) := by
  by_cases h : a < b
  · rw [decide_eq_true h, decide_eq_false (by omega)]; rfl
  · rw [decide_eq_false h, decide_eq_true (by omega)]; rfl
theorem not_gt' (a b : Int) : decide (a > b) = !decide (a ≤ b) := by
  by_cases h : a > b
  · rw [decide_eq_true h, decide_eq_false (by omega)]; rfl
  · rw [decide_eq_false h, decide_eq_true (by omega)]; rfl
theorem rng_cases {a b c d e f u w u' w' : Bool} (h : a = true → b = true → c = true → d = true → e = true → f = true → u = u' ∧ w = w') :
    (bif (bif (bif (bif (!(bif a then b else false)) then true else (!(bif c then d else false))) then true else (!(bif e then f else false))) then true else u) then true else w)
    = (bif (bif (bif (bif (bif (bif (bif (!a) then true else (!b)) then true else (!c)) then true else (!d)) then true else (!e)) then true else (!f)) then true else u') then true else w') := by
  cases a
  · rfl
  cases b
  · rfl
  cases c
  · rfl
  cases d
  · rfl
  cases e
  · rfl
  cases f
  · rfl
  obtain ⟨rfl, rfl⟩ := h rfl rfl rfl rfl rfl rfl
  rfl
theorem times_eq {t : S4} (h1 : B8 t.f1) (h2 : B8 t.f2) (h3 : B8 t.f3) : g31 t = g41 t := by
  unfold B8 at *
  simp only [g31, g31T, g41, g41T, g42, g42T, gett_br, gett_leaf]
  rw [IntWalk.i64_in t.f1 (by omega), IntWalk.i64_in t.f2 (by omega), IntWalk.i64_in t.f3 (by omega)]
  rw [rng_cases (u' := decide (IntKind.i64.wrap (2 * IntKind.i64.wrap (t.f3 - 1)) < t.f1)) (w' := decide (t.f1 < IntKind.i64.wrap (2 * IntKind.i64.wrap (t.f2 + 1)))) (fun a b c d e f => ?_)]
  · rw [not_lt' t.f1 6, not_gt' t.f1 40, not_lt' t.f2 1, not_gt' t.f2 2, not_lt' t.f3 4, not_gt' t.f3 30]
  · simp only [decide_eq_true_eq] at a b c d e f
    rw [IntWalk.i64_in (t.f3 - 1) (by omega), IntWalk.i64_in (2 * (t.f3 - 1)) (by omega), IntWalk.i64_in (t.f2 + 1) (by omega), IntWalk.i64_in (2 * (t.f2 + 1)) (by omega), IntWalk.u8_in (t.f3 - 1) (by omega), IntWalk.u8_in (2 * (t.f3 - 1)) (by omega), IntWalk.u8_in (t.f2 + 1) (by omega), IntWalk.u8_in (2 * (t.f2 + 1)) (by omega)]
    exact ⟨rfl, rfl⟩

theorem addr_eq {n : Int} (h : U64 n) : eqS9 (g30 n) (S9.mk 0 0 0 0 0 0) = (remI n 281474976710656 == 0) := by
  simp only [g30, g30T, gett_leaf, wr_u8, eqS9]
  rw [show shrI .u64 n 40 = n / 1099511627776 from shrI_eq .u64 40 h.1 (by decide), show shrI .u64 n 32 = n / 4294967296 from shrI_eq .u64 32 h.1 (by decide), show shrI .u64 n 24 = n / 16777216 from shrI_eq .u64 24 h.1 (by decide),
    show shrI .u64 n 16 = n / 65536 from shrI_eq .u64 16 h.1 (by decide), show shrI .u64 n 8 = n / 256 from shrI_eq .u64 8 h.1 (by decide), show shrI .u64 n 0 = n / 1 from shrI_eq .u64 0 h.1 (by decide), Int.ediv_one, remI_eq _ h.1]
  rw [Bool.eq_iff_iff]
  simp only [Bool.and_eq_true, beq_iff_eq]
  obtain ⟨h1, h2⟩ := h
  omega

/-! ### Costs -/
def badC (_ : Nat) (p : S0) : Bool := bif decide (p.f0 < 1) then true else decide (p.f0 > 200000000)
def noneC (L : List S0) : Bool := (firstP (fun j => match L[j]? with | some p => bif badC j p then some () else none | none => none) L.length 0).isNone
theorem test0 {V : Type} {p : Nat → Option (Bool × V)} {o : Bool × V} {f : Bool × V → Bool} {L : List S0} {w : Nat → V}
    (hp : ∀ j, p j = match L[j]? with | some q => bif badC j q then some (true, w j) else none | none => none) (hf : ∀ j, f (true, w j) = false) (ho : f o = true) :
    f ((firstP p L.length 0).getD o) = noneC L := by
  unfold noneC
  have hc := firstP_congr (p := p) (q := fun j => match L[j]? with | some p => bif badC j p then some () else none | none => none) (f := fun _ => ()) (k := L.length) (j := 0) (fun i _ _ => by
    show (match L[i]? with | some p => bif badC i p then some () else none | none => none) = _
    rw [hp i]
    cases L[i]? with
    | none => rfl
    | some q => simp only; cases badC i q <;> rfl)
  rw [hc]
  cases h : firstP p L.length 0 with
  | none => simp only [Option.getD_none, ho, Option.map_none, Option.isNone_none]
  | some a =>
    obtain ⟨q, _, _, hq, _⟩ := firstP_some h
    rw [hp q] at hq
    have : ∃ j, a = (true, w j) := by
      revert hq
      cases L[q]? with
      | none => intro h; cases h
      | some r =>
        simp only
        cases badC q r
        · intro h; cases h
        · intro h; simp only [cond_true, Option.some.injEq] at h; exact ⟨q, h.symm⟩
    obtain ⟨j, rfl⟩ := this
    simp only [Option.getD_some, hf, Option.map_some, Option.isNone_some]

theorem costs_eq {L : List S0} (hl : L.length ≤ 1000) : g32 L = some (!noneC L) := by
  have loop : iter gR43_0 1000000 (W43_0.mk L 0 L.length 0) = some ((firstP (fun j => match L[j]? with | some p => bif badC j p then some (true, W43_0.mk L (j : Int) L.length (j : Int)) else none | none => none) L.length 0).getD (false, W43_0.mk L 0 L.length L.length)) := by
    refine iter_find0 (fun j => W43_0.mk L 0 L.length (j : Int)) L.length _ (fun j hj => ?_) (o := (false, W43_0.mk L 0 L.length L.length)) (n := 1000000) ?_ (by omega) rfl
    · have hp : L[j]? = some L[j] := List.getElem?_eq_getElem hj
      have e : g33 L[j].f0 = badC j L[j] := rfl
      simp only [gR43_0, get_br, decide_eq_true (show (j : Int) < (L.length : Int) by omega), decide_eq_true (show (0 : Int) ≤ (j : Int) by omega), cond_true, Int.toNat_natCast, hp, get_optS, get_leaf, i64_nat (j := j) (by omega), e]
      cases badC j L[j] <;> rfl
    · simp only [gR43_0, get_br, Int.lt_irrefl, decide_false, cond_false, get_leaf]
  simp only [g32, g32T, g43, g43T, get_opt, loop, Option.bind_some, get_br, get_leaf]
  have hb : ∀ r : Bool × W43_0, ((bif r.1 then some r.2.a1 else some (-1)).bind fun z => some (decide (z ≥ 0))) = some (!(!(decide ((bif r.1 then r.2.a1 else -1) ≥ 0)))) := by intro r; cases r.1 <;> simp
  rw [hb]
  congr 1
  rw [← test0 (L := L) (f := fun r : Bool × W43_0 => !(decide ((bif r.1 then r.2.a1 else -1) ≥ 0))) (w := fun j => W43_0.mk L (j : Int) L.length (j : Int)) (o := (false, W43_0.mk L 0 L.length L.length)) (fun j => rfl) (fun j => by show (!(decide ((j : Int) ≥ 0))) = false; rw [decide_eq_true (by omega)]; rfl) rfl]

def base (x : S5) : Bool := bif (bif (bif (bif (bif (bif (!(remI x.f0 281474976710656 == 0)) then (g41 (S4.mk x.f1 x.f2 x.f3 x.f4) == 0) else false) then (x.f1 == 0) else false) then (decide (x.f5 ≥ 1)) else false) then (decide (x.f5 ≤ 10)) else false) then (decide ((x.f6.length : Int) ≥ 1)) else false) then (decide ((x.f6.length : Int) ≤ 8)) else false
def ok (x : S5) : Bool := base x && noneC x.f6

theorem check_eq {x : S5} (h : Cok x) (hl : x.f6.length ≤ 1000) : g10 x = some (bif ok x then 0 else 90) := by
  have ht : g31 (S4.mk x.f1 x.f2 x.f3 x.f4) = g41 (S4.mk x.f1 x.f2 x.f3 x.f4) := times_eq h.b h.c h.d
  simp only [g10, g10T, addr_eq h.id, ht, get_br, costs_eq hl, get_optS, get_leaf, Bool.not_not]
  show (bif base x then _ else _) = _
  unfold ok
  cases base x
  · rfl
  · cases noneC x.f6 <;> rfl

theorem isconf_eq {x : S5} (hl : x.f6.length ≤ 1000) : g29 x = some (ok x) := by
  have loop : ∀ v : W29_0, v.a1 = 0 → v.a8 = x.f6 → iter gR29_0 1000000 v = some ((firstP (fun j => match x.f6[j]? with | some p => bif badC j p then some (true, { v with a0 := false, a1 := (j : Int) }) else none | none => none) x.f6.length 0).getD (false, { v with a1 := (x.f6.length : Int) })) := by
    intro v h1 h8
    refine iter_find0 (fun j => { v with a1 := (j : Int) }) x.f6.length _ (fun j hj => ?_) (o := (false, { v with a1 := (x.f6.length : Int) })) (n := 1000000) ?_ (by omega) ?_
    · have hp : x.f6[j]? = some x.f6[j] := List.getElem?_eq_getElem hj
      simp only [gR29_0, h8, get_br, decide_eq_true (show (j : Int) < (x.f6.length : Int) by omega), decide_eq_true (show (0 : Int) ≤ (j : Int) by omega), cond_true, Int.toNat_natCast, hp, get_optS, get_leaf, i64_nat (j := j) (by omega)]
      unfold badC
      cases decide (x.f6[j].f0 < 1)
      · cases decide (x.f6[j].f0 > 200000000) <;> rfl
      · rfl
    · simp only [gR29_0, h8, get_br, Int.lt_irrefl, decide_false, cond_false, get_leaf]
    · cases v; simp at h1; simp [h1]
  have loopN : ∀ v : W29_0, v.a1 = 0 → v.a8 = x.f6 → ((iter gR29_0 1000000 v).bind fun z => bif z.1 then some z.2.a0 else some true) = some (noneC x.f6) := by
    intro v h1 h8
    rw [loop v h1 h8]
    simp only [Option.bind_some]
    have hb : ∀ r : Bool × W29_0, (bif r.1 then some r.2.a0 else some true) = some (bif r.1 then r.2.a0 else true) := by intro r; cases r.1 <;> rfl
    rw [hb]
    exact congrArg some (test0 (L := x.f6) (f := fun r : Bool × W29_0 => bif r.1 then r.2.a0 else true) (fun j => rfl) (fun j => rfl) rfl)
  simp only [g29, g29T, get_br, get_opt, get_leaf, loopN, bne, not_lt', not_gt']
  unfold ok base
  cases (remI x.f0 281474976710656 == 0) <;> cases (g41 (S4.mk x.f1 x.f2 x.f3 x.f4) == 0) <;> cases (x.f1 == 0) <;> cases decide (x.f5 ≥ 1) <;> cases decide (x.f5 ≤ 10) <;> cases decide ((x.f6.length : Int) ≥ 1) <;> cases decide ((x.f6.length : Int) ≤ 8) <;> rfl

/-! ### New -/
def np (j : Nat) (q : S0) : S1 := S1.mk (32769 + (j : Int)) q.f0 false false false false false false false false false false false false false false false false false false false false false false false false false false false 0 0 0 0 0 0 0 0 0 0 0 0 0 0 0 0 0 0 0 0 false false false false false false 0 0 0 0 0 0 0 0 0 0 0 0 0 0 0 0 0 0 0 0 0 0
def fresh (x : S5) : S7 := S7.mk x.f0 x.f1 x.f2 x.f3 x.f4 x.f5 false 0 0 0 0 0 0 0 0 0 (x.f6.mapIdx np)
def none7 : S7 := S7.mk 0 0 0 0 0 0 false 0 0 0 0 0 0 0 0 0 []

theorem new_eq {x : S5} (h : Cok x) (hl : x.f6.length ≤ 1000) : g7 x = some (bif ok x then (fresh x, 0) else (none7, 90)) := by
  have loop : ∀ v : W7_0, v.a1 = x.f6 → v.a2 = x.f6.length → v.a3 = 0 → v.a36 = [] → iter gR7_0 1000000 v = some (false, { v with a3 := (x.f6.length : Int), a36 := x.f6.mapIdx np }) := by
    intro v h1 h2 h3 h36
    refine iter_all (fun j => { v with a3 := (j : Int), a36 := tkF np j x.f6 }) x.f6.length (fun j hj => ?_) (o := (false, { v with a3 := (x.f6.length : Int), a36 := x.f6.mapIdx np })) (n := 1000000) ?_ (by omega) ?_
    · have hp : x.f6[j]? = some x.f6[j] := List.getElem?_eq_getElem hj
      have hs := tkF_step np hp
      have hw : IntKind.u16.wrap (32769 + IntKind.u16.wrap (j : Int)) = 32769 + (j : Int) := by rw [IntWalk.u16_in (j : Int) (by omega), IntWalk.u16_in _ (by omega)]
      simp only [gR7_0, get_br, h1, h2, hw, tkF_len _ (Nat.le_of_lt hj), hp, decide_eq_true (show (j : Int) < (x.f6.length : Int) by omega), decide_eq_true (show (0 : Int) ≤ (j : Int) by omega), cond_true, Int.toNat_natCast, get_optS, get_leaf, room_small (show 248 ≤ 1000000 by omega) (show j + 1 ≤ 1000 by omega), i64_nat (j := j) (by omega)]
      rw [← hs]; rfl
    · simp only [gR7_0, get_br, h2, Int.lt_irrefl, decide_false, cond_false, get_leaf, tkF_all]
    · cases v; simp at h3 h36; simp [h3, h36, tkF_zero]
  simp only [g7, g7T, check_eq h hl, get_optS, get_br]
  cases ok x
  · rfl
  · simp only [cond_true, show ((0 : Int) != 0) = false from rfl, cond_false]
    rw [get_opt, loop _ rfl rfl rfl rfl]
    simp only [Option.bind_some, get_br, cond_false, get_leaf]
    rfl
theorem new_ref {x : S5} (hl : x.f6.length ≤ 1000) : g8 x = some (bif ok x then (fresh x, 0) else (none7, 90)) := by
  have loop : ∀ v : W8_0, v.a1 = 0 → v.a8 = x.f6 → v.a41 = [] → iter gR8_0 1000000 v = some (false, { v with a1 := (x.f6.length : Int), a41 := x.f6.mapIdx np }) := by
    intro v h1 h8 h41
    refine iter_all (fun j => { v with a1 := (j : Int), a41 := tkF np j x.f6 }) x.f6.length (fun j hj => ?_) (o := (false, { v with a1 := (x.f6.length : Int), a41 := x.f6.mapIdx np })) (n := 1000000) ?_ (by omega) ?_
    · have hp : x.f6[j]? = some x.f6[j] := List.getElem?_eq_getElem hj
      have hs := tkF_step np hp
      have hw : IntKind.u16.wrap (IntKind.i64.wrap (32769 + (j : Int))) = 32769 + (j : Int) := by rw [IntWalk.i64_in (32769 + (j : Int)) (by omega), IntWalk.u16_in _ (by omega)]
      simp only [gR8_0, get_br, h8, hw, tkF_len _ (Nat.le_of_lt hj), hp, decide_eq_true (show (j : Int) < (x.f6.length : Int) by omega), decide_eq_true (show (0 : Int) ≤ (j : Int) by omega), cond_true, Int.toNat_natCast, get_optS, get_leaf, room_small (show 248 ≤ 1000000 by omega) (show j + 1 ≤ 1000 by omega), i64_nat (j := j) (by omega)]
      rw [← hs]; rfl
    · simp only [gR8_0, get_br, h8, Int.lt_irrefl, decide_false, cond_false, get_leaf, tkF_all]
    · cases v; simp at h1 h41; simp [h1, h41, tkF_zero]
  simp only [g8, g8T, isconf_eq hl, get_optS, get_br]
  cases ok x
  · rfl
  · simp only [Bool.not_true, cond_true, cond_false]
    rw [get_opt, loop _ rfl rfl rfl]
    simp only [Option.bind_some, get_br, cond_false, get_leaf]
    rfl

theorem law3 {x : S5} (h : Cok x) : g3 x = some true := by
  have hm : mnI (x.f6.length : Int) 20 = ((min x.f6.length 20 : Nat) : Int) := by unfold mnI; split <;> omega
  obtain ⟨y, hy⟩ : ∃ y, y = ({ x with f6 := x.f6.take (min x.f6.length 20) } : S5) := ⟨_, rfl⟩
  have hl : y.f6.length ≤ 1000 := by rw [hy]; simp; omega
  have hc : Cok y := by rw [hy]; exact ⟨h.id, h.a, h.b, h.c, h.d⟩
  have hs : ∀ z : S7, z.f16.length ≤ 1000 → g9 z z = some true := fun z hz => same_self z hz
  have hf : (fresh y).f16.length ≤ 1000 := by show (y.f6.mapIdx np).length ≤ 1000; simpa using hl
  simp only [g3, g3T, get_br, hm, Int.toNat_natCast, decide_eq_true (show (0 : Int) ≤ ((min x.f6.length 20 : Nat) : Int) by omega), decide_eq_true (show ((min x.f6.length 20 : Nat) : Int) ≤ (x.f6.length : Int) by omega), Bool.and_self, cond_true, ← hy]
  simp only [new_eq hc hl, new_ref hl, check_eq hc hl, get_optS]
  cases ok y
  · simp only [cond_false, hs none7 (by decide), get_optS, beq_self_eq_true, cond_true, get_br, awake_true, get_leaf]
  · simp only [cond_true, hs (fresh y) hf, get_optS, beq_self_eq_true, get_br, awake_true, get_leaf]
end Ab09
