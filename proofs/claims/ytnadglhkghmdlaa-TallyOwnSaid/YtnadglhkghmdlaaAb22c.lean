/- Seat 22: the plain laws: counters, and their names. -/
import Derived.Test.YtnadglhkghmdlaaAb22b
import Derived.Test.YtnadglhkghmdlaaAbArith
set_option maxRecDepth 100000
set_option maxHeartbeats 1000000
set_option linter.unusedVariables false
set_option linter.unusedSimpArgs false
namespace Ab22
open Go Ab

theorem w64 {n : Int} (h : -9223372036854775808 ≤ n ∧ n ≤ 9223372036854775807) : IntKind.i64.wrap n = n := by
  rw [wr_i64]; split <;> omega

theorem awake : g9 = some true := by kernel_rfl

theorem ba_rfl (a : ByteArray) : (a == a) = true := by
  cases a
  show ByteArray.beq _ _ = true
  unfold ByteArray.beq
  simp
theorem ba_eq {a b : ByteArray} (h : (a == b) = true) : a = b := by
  cases a; cases b
  have h : ByteArray.beq _ _ = true := h
  unfold ByteArray.beq at h
  simp at h
  rw [h]

/-! ### Names -/
def nm (N : S8) : Nat → ByteArray
  | 0 => N.f0 | 1 => N.f1 | 2 => N.f2 | 3 => N.f3 | 4 => N.f4 | 5 => N.f5 | 6 => N.f6 | 7 => N.f7 | 8 => N.f8 | 9 => N.f9 | 10 => N.f10 | 11 => N.f11 | 12 => N.f12 | 13 => N.f13 | _ => N.f14

def pI (N : S8) (s : ByteArray) (j : Nat) : Option U12_0 := bif (bif decide ((j : Int) > 0) then nm N j == s else false) then some ⟨j, true⟩ else none

theorem step12 (N : S8) (s : ByteArray) (j : Nat) (hj : j < 15) : (gR12_0 ⟨s, 0, false, N, j⟩).get? = some ((pI N s j).elim (.inl ⟨s, 0, false, N, ((j + 1 : Nat) : Int)⟩) fun u => .inr (.inr u)) := by
  have e : (gR12_0 ⟨s, 0, false, N, j⟩).get? = bif (bif decide ((j : Int) > 0) then nm N j == s else false) then some (.inr (.inr ⟨j, true⟩)) else some (.inl ⟨s, 0, false, N, IntKind.i64.wrap ((j : Int) + 1)⟩) := by
    match j, hj with
    | 0, _ => rfl
    | 1, _ => rfl
    | 2, _ => rfl
    | 3, _ => rfl
    | 4, _ => rfl
    | 5, _ => rfl
    | 6, _ => rfl
    | 7, _ => rfl
    | 8, _ => rfl
    | 9, _ => rfl
    | 10, _ => rfl
    | 11, _ => rfl
    | 12, _ => rfl
    | 13, _ => rfl
    | 14, _ => rfl
  rw [e, w64 (by omega)]
  unfold pI
  cases (bif decide ((j : Int) > 0) then nm N j == s else false) <;> rfl

def fnd (s : ByteArray) : Option U12_0 := firstP (pI g28 s) 14 1
def prs (s : ByteArray) : Int × Bool := match fnd s with | some u => (u.a0, u.a1) | none => (0, false)

theorem parse_eq (s : ByteArray) : g12 s = some (prs s) := by
  have h := iter2_find (R := gR12_0) (fun j => W12_0.mk s 0 false g28 (j : Int)) 15 (pI g28 s) (fun j hj => step12 g28 s j hj) (w := ⟨s, 0, false, g28, 15⟩) rfl 15 0 2000000 (by omega) (by omega)
  have h0 : firstP (pI g28 s) 15 0 = fnd s := by
    unfold fnd
    rw [firstP]
    rfl
  rw [h0] at h
  have h' : iter2 gR12_0 2000000 ⟨s, 0, false, g28, 0⟩ = some ((fnd s).elim (.inl ⟨s, 0, false, g28, 15⟩) fun u => .inr u) := h
  unfold g12 g12T
  simp only [get_opt, get_br, get_leaf]
  rw [h']
  unfold prs
  cases fnd s <;> rfl

def pJ (s : ByteArray) (j : Nat) : Option U13_0 := bif nm g28 j == s then some ⟨j, true⟩ else none

theorem row_nm (j : Nat) (hj : j < 15) : g29[j]? = some ⟨nm g28 j⟩ := by
  match j, hj with
  | 0, _ => rfl
  | 1, _ => rfl
  | 2, _ => rfl
  | 3, _ => rfl
  | 4, _ => rfl
  | 5, _ => rfl
  | 6, _ => rfl
  | 7, _ => rfl
  | 8, _ => rfl
  | 9, _ => rfl
  | 10, _ => rfl
  | 11, _ => rfl
  | 12, _ => rfl
  | 13, _ => rfl
  | 14, _ => rfl

theorem len29 : g29.length = 15 := rfl

theorem step13 (s : ByteArray) (j : Nat) (hj : j < 14) : (gR13_0 ⟨s, 0, false, g29, ((j + 1 : Nat) : Int)⟩).get? = some ((pJ s (j + 1)).elim (.inl ⟨s, 0, false, g29, ((j + 1 + 1 : Nat) : Int)⟩) fun u => .inr (.inr u)) := by
  unfold gR13_0
  have hl : ((j + 1 : Nat) : Int) < ((g29.length : Nat) : Int) := by rw [len29]; omega
  have hp : (0 : Int) ≤ ((j + 1 : Nat) : Int) := by omega
  have hw : IntKind.i64.wrap (((j + 1 : Nat) : Int) + 1) = ((j + 1 + 1 : Nat) : Int) := by rw [w64 (by omega)]; omega
  simp only [get_br, get_opt, get_leaf, hl, hp, decide_true, cond_true, Int.toNat_natCast, row_nm (j + 1) (by omega), Option.bind_some, hw]
  unfold pJ
  cases nm g28 (j + 1) == s <;> rfl

theorem ref_eq (s : ByteArray) : g13 s = some (prs s) := by
  have h := iter2_find (R := gR13_0) (fun j => W13_0.mk s 0 false g29 ((j + 1 : Nat) : Int)) 14 (fun j => pJ s (j + 1)) (fun j hj => step13 s j hj) (w := ⟨s, 0, false, g29, 15⟩) rfl 14 0 2000000 (by omega) (by omega)
  have h0 : ∀ k j, firstP (pI g28 s) k (j + 1) = (firstP (fun j => pJ s (j + 1)) k j).map fun u => ⟨u.a0, u.a1⟩ := by
    intro k
    induction k with
    | zero => intro j; rfl
    | succ k ih =>
      intro j
      unfold firstP
      rw [ih]
      have hp : (decide (((j + 1 : Nat) : Int) > 0)) = true := by rw [decide_eq_true_eq]; omega
      unfold pI pJ
      rw [hp]
      cases nm g28 (j + 1) == s <;> rfl
  have h' : iter2 gR13_0 2000000 ⟨s, 0, false, g29, 1⟩ = some ((firstP (fun j => pJ s (j + 1)) 14 0).elim (.inl ⟨s, 0, false, g29, 15⟩) fun u => .inr u) := h
  unfold g13 g13T
  simp only [get_opt, get_br, get_leaf]
  rw [h']
  unfold prs fnd
  rw [h0 14 0]
  cases firstP (fun j => pJ s (j + 1)) 14 0 <;> rfl

theorem name_eq (x : Int) : h14 x = h15 x := by
  by_cases h : 1 ≤ x ∧ x ≤ 14
  · have : x = 1 ∨ x = 2 ∨ x = 3 ∨ x = 4 ∨ x = 5 ∨ x = 6 ∨ x = 7 ∨ x = 8 ∨ x = 9 ∨ x = 10 ∨ x = 11 ∨ x = 12 ∨ x = 13 ∨ x = 14 := by omega
    rcases this with rfl | rfl | rfl | rfl | rfl | rfl | rfl | rfl | rfl | rfl | rfl | rfl | rfl | rfl <;> (show h14 _ = h15 _; kernel_rfl)
  · have h1 : (bif (decide (x ≥ 1)) then (decide (x ≤ 14)) else false) = false := by
      by_cases a : x ≥ 1
      · have b : ¬ x ≤ 14 := fun b => h ⟨a, b⟩
        simp [a, b]
      · simp [a]
    unfold h14 h15 g14 g14T g15 g15T g27 g27T g30 g30T
    simp only [Tr.get, get_br, get_leaf, h1]
    rfl

theorem name_out {x : Int} (h : ¬ (1 ≤ x ∧ x ≤ 14)) : h14 x = ⟨#[]⟩ := by
  have h1 : (bif (decide (x ≥ 1)) then (decide (x ≤ 14)) else false) = false := by
    by_cases a : x ≥ 1
    · have b : ¬ x ≤ 14 := fun b => h ⟨a, b⟩
      simp [a, b]
    · simp [a]
  unfold h14 g14 g14T g27 g27T
  simp only [Tr.get, get_br, get_leaf, h1]
  rfl

theorem back (x : Int) : (prs (h14 x)).2 = (bif (decide (x ≥ 1)) then (decide (x ≤ 14)) else false) ∧ ((prs (h14 x)).2 = true → (prs (h14 x)).1 = x) := by
  by_cases h : 1 ≤ x ∧ x ≤ 14
  · have : x = 1 ∨ x = 2 ∨ x = 3 ∨ x = 4 ∨ x = 5 ∨ x = 6 ∨ x = 7 ∨ x = 8 ∨ x = 9 ∨ x = 10 ∨ x = 11 ∨ x = 12 ∨ x = 13 ∨ x = 14 := by omega
    have key : ∀ y : Int, prs (h14 y) = (y, true) → decide (y ≥ 1) = true → decide (y ≤ 14) = true → (prs (h14 y)).2 = (bif (decide (y ≥ 1)) then (decide (y ≤ 14)) else false) ∧ ((prs (h14 y)).2 = true → (prs (h14 y)).1 = y) := by
      intro y hy a b
      rw [hy, a, b]; exact ⟨rfl, fun _ => rfl⟩
    rcases this with rfl | rfl | rfl | rfl | rfl | rfl | rfl | rfl | rfl | rfl | rfl | rfl | rfl | rfl <;> exact key _ (by show prs _ = _; kernel_rfl) (by decide) (by decide)
  · rw [name_out h]
    have h1 : (bif (decide (x ≥ 1)) then (decide (x ≤ 14)) else false) = false := by
      by_cases a : x ≥ 1
      · have b : ¬ x ≤ 14 := fun b => h ⟨a, b⟩
        simp [a, b]
      · simp [a]
    have h2 : prs ⟨#[]⟩ = (0, false) := by kernel_rfl
    rw [h1, h2]
    exact ⟨rfl, fun h => by cases h⟩

theorem firstP_some {α : Type} {p : Nat → Option α} {a : α} : ∀ {k j : Nat}, firstP p k j = some a → ∃ i, j ≤ i ∧ i < j + k ∧ p i = some a
  | 0, j, h => by simp [firstP] at h
  | k + 1, j, h => by
    unfold firstP at h
    cases hp : p j with
    | some b => rw [hp] at h; cases h; exact ⟨j, Nat.le_refl _, by omega, hp⟩
    | none =>
      rw [hp] at h
      obtain ⟨i, h1, h2, h3⟩ := firstP_some h
      exact ⟨i, by omega, by omega, h3⟩

theorem nm_h14 (i : Nat) (h1 : 1 ≤ i) (h2 : i < 15) : h14 (i : Int) = nm g28 i :=
  match i, h1, h2 with
  | 1, _, _ => by show h14 _ = nm g28 _; kernel_rfl
  | 2, _, _ => by show h14 _ = nm g28 _; kernel_rfl
  | 3, _, _ => by show h14 _ = nm g28 _; kernel_rfl
  | 4, _, _ => by show h14 _ = nm g28 _; kernel_rfl
  | 5, _, _ => by show h14 _ = nm g28 _; kernel_rfl
  | 6, _, _ => by show h14 _ = nm g28 _; kernel_rfl
  | 7, _, _ => by show h14 _ = nm g28 _; kernel_rfl
  | 8, _, _ => by show h14 _ = nm g28 _; kernel_rfl
  | 9, _, _ => by show h14 _ = nm g28 _; kernel_rfl
  | 10, _, _ => by show h14 _ = nm g28 _; kernel_rfl
  | 11, _, _ => by show h14 _ = nm g28 _; kernel_rfl
  | 12, _, _ => by show h14 _ = nm g28 _; kernel_rfl
  | 13, _, _ => by show h14 _ = nm g28 _; kernel_rfl
  | 14, _, _ => by show h14 _ = nm g28 _; kernel_rfl

theorem found (s : ByteArray) : (prs s).2 = true → h14 (prs s).1 = s := by
  unfold prs
  cases hf : fnd s with
  | none => intro h; cases h
  | some u =>
    intro h
    obtain ⟨i, h1, h2, h3⟩ := firstP_some hf
    unfold pI at h3
    have hp : (decide ((i : Int) > 0)) = true := by simp; omega
    rw [hp] at h3
    cases hb : nm g28 i == s with
    | false => rw [hb] at h3; cases h3
    | true =>
      rw [hb] at h3
      cases h3
      have := ba_eq hb
      show h14 (i : Int) = s
      rw [nm_h14 i h1 (by omega), this]

theorem law4 (x : Int) (s : ByteArray) : g4 x s = some true := by
  have core : ∀ t : ByteArray, (bif (bif (bif (bif (bif (bif ((prs t).1 == (prs t).1) then ((prs t).2 == (prs t).2) else false) then (h14 x == h15 x) else false) then ((prs (h14 x)).2 == (bif (decide (x ≥ 1)) then (decide (x ≤ 14)) else false)) else false) then (bif (!(prs (h14 x)).2) then true else ((prs (h14 x)).1 == x)) else false) then (bif (!(prs t).2) then true else (h14 (prs t).1 == t)) else false) then (some true : Option Bool) else some false) = some true := by
    intro t
    have b := back x
    have f := found t
    rw [← name_eq x, ← b.1]
    have c1 : (bif (!(prs (h14 x)).2) then true else ((prs (h14 x)).1 == x)) = true := by
      cases h : (prs (h14 x)).2 with
      | false => rfl
      | true => rw [b.2 h]; simp
    have c2 : (bif (!(prs t).2) then true else (h14 (prs t).1 == t)) = true := by
      cases h : (prs t).2 with
      | false => rfl
      | true => rw [f h]; simp [ba_rfl]
    rw [c1, c2]
    simp [ba_rfl]
  unfold g4 g4T
  simp only [get_br, get_opt, get_leaf, parse_eq, ref_eq, Option.bind_some, awake]
  by_cases h : (s.size : Int) > 60
  · have h1 : (decide (0 ≤ 60) && decide (60 ≤ (s.size : Int))) = true := by
      simp only [Bool.and_eq_true, decide_eq_true_eq]; omega
    simp only [h, decide_true, cond_true, h1]
    exact core _
  · simp only [h, decide_false, cond_false]
    exact core _

end Ab22
