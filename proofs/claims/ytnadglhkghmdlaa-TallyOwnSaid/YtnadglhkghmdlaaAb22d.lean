/- Seat 22: the plain laws: a tally is the document's. -/
import Derived.Test.YtnadglhkghmdlaaAb22c
set_option maxRecDepth 100000
set_option maxHeartbeats 2000000
set_option linter.unusedVariables false
set_option linter.unusedSimpArgs false
namespace Ab22
open Go Ab

def R (T : S3) : List S1 := [⟨T.f0⟩, ⟨T.f1⟩, ⟨T.f2⟩, ⟨T.f3⟩, ⟨T.f4⟩, ⟨T.f5⟩, ⟨T.f6⟩, ⟨T.f7⟩, ⟨T.f8⟩, ⟨T.f9⟩, ⟨T.f10⟩, ⟨T.f11⟩, ⟨T.f12⟩, ⟨T.f13⟩, ⟨T.f14⟩]
def gt (T : S3) (i : Nat) : Int := selI (enc3 T) i
def st (T : S3) (i : Nat) (x : Int) : S3 :=
  ⟨bif Nat.beq i 0 then x else T.f0, bif Nat.beq i 1 then x else T.f1, bif Nat.beq i 2 then x else T.f2, bif Nat.beq i 3 then x else T.f3, bif Nat.beq i 4 then x else T.f4, bif Nat.beq i 5 then x else T.f5, bif Nat.beq i 6 then x else T.f6, bif Nat.beq i 7 then x else T.f7, bif Nat.beq i 8 then x else T.f8, bif Nat.beq i 9 then x else T.f9, bif Nat.beq i 10 then x else T.f10, bif Nat.beq i 11 then x else T.f11, bif Nat.beq i 12 then x else T.f12, bif Nat.beq i 13 then x else T.f13, bif Nat.beq i 14 then x else T.f14, T.f15⟩

theorem cases15 {P : Nat → Prop} (h : P 0 ∧ P 1 ∧ P 2 ∧ P 3 ∧ P 4 ∧ P 5 ∧ P 6 ∧ P 7 ∧ P 8 ∧ P 9 ∧ P 10 ∧ P 11 ∧ P 12 ∧ P 13 ∧ P 14) : ∀ i, i < 15 → P i := by
  obtain ⟨h0, h1, h2, h3, h4, h5, h6, h7, h8, h9, h10, h11, h12, h13, h14⟩ := h
  intro i hi
  match i, hi with
  | 0, _ => exact h0
  | 1, _ => exact h1
  | 2, _ => exact h2
  | 3, _ => exact h3
  | 4, _ => exact h4
  | 5, _ => exact h5
  | 6, _ => exact h6
  | 7, _ => exact h7
  | 8, _ => exact h8
  | 9, _ => exact h9
  | 10, _ => exact h10
  | 11, _ => exact h11
  | 12, _ => exact h12
  | 13, _ => exact h13
  | 14, _ => exact h14

theorem R_len (T : S3) : (R T).length = 15 := rfl
theorem R_get (T : S3) : ∀ i, i < 15 → (R T)[i]? = some ⟨gt T i⟩ := cases15 ⟨rfl, rfl, rfl, rfl, rfl, rfl, rfl, rfl, rfl, rfl, rfl, rfl, rfl, rfl, rfl⟩
theorem R_st (T : S3) (x : Int) : ∀ i, i < 15 → R (st T i x) = (R T).set i ⟨x⟩ := cases15 ⟨rfl, rfl, rfl, rfl, rfl, rfl, rfl, rfl, rfl, rfl, rfl, rfl, rfl, rfl, rfl⟩
theorem st_made (T : S3) (i : Nat) (x : Int) : (st T i x).f15 = T.f15 := rfl
theorem gt_st {T : S3} {x : Int} {i k : Nat} (hi : i < 15) (hk : k < 15) : gt (st T i x) k = if i = k then x else gt T k := by
  have h1 := R_get (st T i x) k hk
  rw [R_st T x i hi, List.getElem?_set] at h1
  have h2 := R_get T k hk
  by_cases h : i = k
  · rw [if_pos h, if_pos (by rw [R_len]; omega)] at h1
    rw [if_pos h]
    simp at h1
    exact h1.symm
  · rw [if_neg h, h2] at h1
    rw [if_neg h]
    simp at h1
    exact h1.symm

structure Ok (T : S3) : Prop where
  made : T.f15 = true
  z : T.f0 = 0
  rg : ∀ i, i < 15 → 0 ≤ gt T i ∧ gt T i ≤ 1125899906842624

def isW (w : Int) : Prop := 1 ≤ w ∧ w ≤ 14
instance (w : Int) : Decidable (isW w) := by unfold isW; infer_instance

theorem isW_eq (w : Int) : (bif (decide (w ≥ 1)) then (decide (w ≤ 14)) else false) = decide (isW w) := by
  unfold isW
  by_cases a : 1 ≤ w
  · by_cases b : w ≤ 14 <;> simp [a, b]
  · have : ¬ w ≥ 1 := a
    simp [a]
theorem g27_eq (w : Int) : g27 w = decide (isW w) := by unfold g27 g27T; simp only [Tr.get, isW_eq]
theorem g30_eq (w : Int) : g30 w = decide (isW w) := by unfold g30 g30T; simp only [Tr.get, isW_eq]

def addP (T : S3) (w n : Int) : Int × S3 :=
  if ¬ isW w ∨ n < 0 ∨ n > 1073741824 then (220, T)
  else if gt T w.toNat > 1125899906842624 - n then (3, T)
  else (0, st T w.toNat (gt T w.toNat + n))

theorem addP_ok {T : S3} (h : Ok T) (w n : Int) : Ok (addP T w n).2 := by
  unfold addP
  split
  · exact h
  · rename_i hc
    have hw : isW w := by
      by_cases q : isW w
      · exact q
      · exact absurd (.inl q) hc
    unfold isW at hw
    split
    · exact h
    · rename_i hd
      refine ⟨h.made, ?_, fun i hi => ?_⟩
      · have h0 : gt (st T w.toNat (gt T w.toNat + n)) 0 = gt T 0 := by
          rw [gt_st (by omega) (by omega), if_neg (by omega)]
        exact h0.trans h.z
      · show 0 ≤ gt (st T w.toNat (gt T w.toNat + n)) i ∧ _
        rw [gt_st (by omega) hi]
        split
        · have := h.rg w.toNat (by omega)
          omega
        · exact h.rg i hi

theorem badB (w n : Int) (z : Bool) (hz : z = decide (isW w)) : (bif (bif (!z) then true else (decide (n < 0))) then true else (decide (n > 1073741824))) = decide (¬ isW w ∨ n < 0 ∨ n > 1073741824) := by
  subst hz
  by_cases a : isW w
  · by_cases b : n < 0
    · simp [a, b]
    · by_cases c : n > 1073741824 <;> simp [a, b, c]
  · simp [a]

theorem g10_eq {T : S3} (h : Ok T) (w n : Int) : g10_0 ⟨w, n, T⟩ = some ⟨(addP T w n).1, (addP T w n).2⟩ := by
  unfold g10_0 g10_0T addP
  simp only [get_br, get_leaf, get_fail, h.made, Bool.not_true, cond_false, badB w n _ (g27_eq w)]
  by_cases hc : ¬ isW w ∨ n < 0 ∨ n > 1073741824
  · simp [hc]
  · have hw : isW w := by
      by_cases q : isW w
      · exact q
      · exact absurd (.inl q) hc
    have hn : ¬ n < 0 ∧ ¬ n > 1073741824 := ⟨fun q => hc (.inr (.inl q)), fun q => hc (.inr (.inr q))⟩
    unfold isW at hw
    have h1 : (decide (0 ≤ w) && decide (w < 15)) = true := by simp only [Bool.and_eq_true, decide_eq_true_eq]; omega
    have h2 : Nat.blt (Int.toNat w) 15 = true := by simp [Nat.blt, Nat.ble_eq]; omega
    have hr := h.rg w.toNat (by omega)
    have hw1 : IntKind.i64.wrap (1125899906842624 - n) = 1125899906842624 - n := w64 (by omega)
    rw [if_neg hc]
    have hcd : decide (¬ isW w ∨ n < 0 ∨ n > 1073741824) = false := by simp only [decide_eq_false_iff_not]; exact hc
    have hgt : selI (enc3 T) (Int.toNat w) = gt T w.toNat := rfl
    rw [hcd]
    simp only [cond_false, h1, h2, cond_true, hw1, hgt]
    by_cases hd : gt T w.toNat > 1125899906842624 - n
    · simp [hd]
    · have hw2 : IntKind.i64.wrap (gt T w.toNat + n) = gt T w.toNat + n := w64 (by omega)
      rw [if_neg hd, hw2]
      simp only [hd, decide_false, cond_false]
      rw [← h.made]
      rfl

theorem g19_eq {T : S3} (h : Ok T) (w n : Int) : g19 ⟨R T⟩ w n = some (⟨R (addP T w n).2⟩, (addP T w n).1) := by
  unfold g19 g19T addP
  simp only [get_br, get_opt, get_leaf, get_fail, badB w n _ (g30_eq w)]
  by_cases hc : ¬ isW w ∨ n < 0 ∨ n > 1073741824
  · simp [hc]
  · have hw : isW w := by
      by_cases q : isW w
      · exact q
      · exact absurd (.inl q) hc
    have hn : ¬ n < 0 ∧ ¬ n > 1073741824 := ⟨fun q => hc (.inr (.inl q)), fun q => hc (.inr (.inr q))⟩
    unfold isW at hw
    have hp : (0 : Int) ≤ w := by omega
    have h1 : w < ((R T).length : Int) := by rw [R_len]; omega
    have hr := h.rg w.toNat (by omega)
    have hw1 : IntKind.i64.wrap (gt T w.toNat + n) = gt T w.toNat + n := w64 (by omega)
    rw [if_neg hc]
    have hcd : decide (¬ isW w ∨ n < 0 ∨ n > 1073741824) = false := by simp only [decide_eq_false_iff_not]; exact hc
    have he : (R T).isEmpty = false := rfl
    have hb : (Nat.ble (0 + (R T).length) 140737488355328 && Nat.ble ((0 + (R T).length) * 8) 140737488355328) = true := by rw [R_len]; rfl
    simp only [hcd, hp, decide_true, cond_true, cond_false, R_get T w.toNat (by omega), Option.bind_some, hw1, he, hb, h1, Bool.and_self]
    by_cases hd : gt T w.toNat > 1125899906842624 - n
    · have hd' : gt T w.toNat + n > 1125899906842624 := by omega
      simp [hd, hd']
    · have hd' : ¬ gt T w.toNat + n > 1125899906842624 := by omega
      rw [if_neg hd]
      simp only [hd', decide_false, cond_false]
      rw [← R_st T _ w.toNat (by omega)]

def getP (T : S3) (w : Int) : Int := if isW w then gt T w.toNat else 0

theorem g11_eq {T : S3} (h : Ok T) (w : Int) : g11_0 ⟨T, w⟩ = some ⟨getP T w⟩ := by
  by_cases hw : isW w
  · have : w = 1 ∨ w = 2 ∨ w = 3 ∨ w = 4 ∨ w = 5 ∨ w = 6 ∨ w = 7 ∨ w = 8 ∨ w = 9 ∨ w = 10 ∨ w = 11 ∨ w = 12 ∨ w = 13 ∨ w = 14 := by unfold isW at hw; omega
    unfold getP
    rw [if_pos hw]
    have hm := h.made
    obtain ⟨a0, a1, a2, a3, a4, a5, a6, a7, a8, a9, a10, a11, a12, a13, a14, a15⟩ := T
    have hm : a15 = true := hm
    subst hm
    rcases this with rfl | rfl | rfl | rfl | rfl | rfl | rfl | rfl | rfl | rfl | rfl | rfl | rfl | rfl <;> rfl
  · unfold getP
    rw [if_neg hw]
    unfold g11_0 g11_0T
    simp only [get_br, get_leaf, g27_eq, hw, decide_false, Bool.not_false, h.made, Bool.not_true, cond_false, cond_true]

theorem g20_eq {T : S3} (h : Ok T) (w : Int) : g20 ⟨R T⟩ w = some (getP T w) := by
  unfold g20 g20T getP
  simp only [get_br, get_opt, get_leaf, get_fail, g30_eq]
  by_cases hw : isW w
  · have hw' := hw
    unfold isW at hw'
    have hp : (0 : Int) ≤ w := by omega
    simp only [hw, decide_true, Bool.not_true, cond_false, hp, cond_true, R_get T w.toNat (by omega), Option.bind_some, if_true]
  · simp only [hw, decide_false, Bool.not_false, cond_true, if_false]

theorem getP_rg {T : S3} (h : Ok T) (w : Int) : 0 ≤ getP T w ∧ getP T w ≤ 1125899906842624 := by
  unfold getP
  split
  · rename_i hw; unfold isW at hw; exact h.rg _ (by omega)
  · omega

def T0 : S3 := ⟨0, 0, 0, 0, 0, 0, 0, 0, 0, 0, 0, 0, 0, 0, 0, true⟩
theorem T0_ok : Ok T0 := ⟨rfl, rfl, cases15 ⟨by decide, by decide, by decide, by decide, by decide, by decide, by decide, by decide, by decide, by decide, by decide, by decide, by decide, by decide, by decide⟩⟩

/-! ### How far -/
theorem loopMany (k : Int) (hk : isW k) : ∃ w, iter2 gR3_0 2000000 ⟨false, k, 0, T0⟩ = some (.inl w) ∧ w.a1 = k ∧ Ok w.a3 ∧ gt w.a3 k.toNat = 1125899906842624 := by
  have hk' := hk
  unfold isW at hk'
  refine iter2_inv (R := gR3_0) (fun j v => v.a1 = k ∧ v.a2 = (j : Int) ∧ j ≤ 1048576 ∧ Ok v.a3 ∧ gt v.a3 k.toNat = 1073741824 * (j : Int)) (fun w => w.a1 = k ∧ Ok w.a3 ∧ gt w.a3 k.toNat = 1125899906842624) 1048576 (fun j v h => h.2.2.1)
    (fun j v ⟨e1, e2, ej, eo, eg⟩ => ?_) 2000000 0 _ ⟨rfl, rfl, by omega, T0_ok, ?_⟩ (by omega)
  · unfold gR3_0
    simp only [get_br, get_opt, get_leaf, g10_eq eo, Option.bind_some, e1]
    by_cases hl : v.a2 < 1048576
    · left
      have ha : addP v.a3 k 1073741824 = (0, st v.a3 k.toNat (gt v.a3 k.toNat + 1073741824)) := by
        unfold addP
        rw [if_neg (by intro q; rcases q with q | q | q; exact q hk; omega; omega), if_neg (by omega)]
      have hok := addP_ok eo k 1073741824
      rw [ha] at hok
      simp only [hl, decide_true, cond_true, ha]
      refine ⟨_, rfl, ?_⟩
      refine ⟨rfl, ?_, by omega, hok, ?_⟩
      · dsimp only; rw [w64 (by omega)]; omega
      · dsimp only; rw [gt_st (by omega) (by omega), if_pos rfl, eg]; omega
    · right
      simp only [hl, decide_false, cond_false]
      refine ⟨v, rfl, e1, eo, ?_⟩
      rw [eg]
      omega
  · have : ∀ i, i < 15 → gt T0 i = 0 := cases15 ⟨rfl, rfl, rfl, rfl, rfl, rfl, rfl, rfl, rfl, rfl, rfl, rfl, rfl, rfl, rfl⟩
    rw [this k.toNat (by omega)]; rfl

theorem law3 (x : Int) (hx : 0 ≤ x ∧ x ≤ 255) : g3 x = some true := by
  have hk : IntKind.i64.wrap (1 + remI (IntKind.i64.wrap x) 14) = 1 + x % 14 := by
    rw [w64 (n := x) (by omega), remI_eq _ hx.1, w64 (by omega)]
  have hW : isW (1 + x % 14) := by unfold isW; omega
  generalize 1 + x % 14 = k at hk hW
  obtain ⟨w, hw, w1, wo, wg⟩ := loopMany k hW
  have h1 : addP w.a3 k 1 = (3, w.a3) := by
    unfold addP
    rw [if_neg (by intro q; rcases q with q | q | q; exact q hW; omega; omega), if_pos (by omega)]
  have h2 : addP w.a3 k 0 = (0, st w.a3 k.toNat (gt w.a3 k.toNat + 0)) := by
    unfold addP
    rw [if_neg (by intro q; rcases q with q | q | q; exact q hW; omega; omega), if_neg (by omega)]
  have hok := addP_ok wo k 0
  rw [h2] at hok
  have hg : getP (st w.a3 k.toNat (gt w.a3 k.toNat + 0)) k = 1125899906842624 := by
    unfold getP
    have hW' := hW
    unfold isW at hW'
    rw [if_pos hW, gt_st (by omega) (by omega), if_pos rfl, wg]; rfl
  unfold g3 g3T
  have hw' : iter2 gR3_0 2000000 ⟨false, k, 0, ⟨0, 0, 0, 0, 0, 0, 0, 0, 0, 0, 0, 0, 0, 0, 0, true⟩⟩ = some (.inl w) := hw
  simp only [get_br, get_opt, get_leaf, awake, Option.bind_some, hk, hw', Sum.isRight_inl, cond_false, Sum.getLeft?_inl, w1, g10_eq wo, h1, h2, g11_eq hok, hg]
  rfl

/-! ### Sums -/
def ct (l : List S1) (w : Int) : Bool := l.any fun y => w == y.f0

theorem loopIx (l : List S1) (w : Int) (hl : l.length ≤ 100) : ∃ r : Int, g33 l w = some r ∧ (0 ≤ r ↔ ct l w = true) := by
  have h := iter2_find (R := gR33_0) (fun j => W33_0.mk l w 0 (l.length : Int) (j : Int)) l.length (fun j => (l[j]?).bind fun y => bif w == y.f0 then some ⟨(j : Int)⟩ else none) (fun j hj => ?_) (w := ⟨l, w, 0, l.length, l.length⟩) ?_ l.length 0 2000000 (by omega) (by omega)
  · have h' : iter2 gR33_0 2000000 ⟨l, w, 0, (l.length : Int), 0⟩ = _ := h
    unfold g33 g33T
    simp only [get_opt, get_br, get_leaf]
    rw [h']
    cases hf : firstP (fun j => (l[j]?).bind fun y => bif w == y.f0 then some (U33_0.mk (j : Int)) else none) l.length 0 with
    | some u =>
      refine ⟨u.a0, rfl, ?_⟩
      obtain ⟨i, h1, h2, h3⟩ := firstP_some hf
      rw [List.getElem?_eq_getElem (by omega)] at h3
      simp only [Option.bind_some] at h3
      cases hb : w == l[i].f0 with
      | false => rw [hb] at h3; cases h3
      | true =>
        rw [hb] at h3
        cases h3
        constructor
        · intro _; unfold ct; rw [List.any_eq_true]; exact ⟨l[i], List.getElem_mem _, hb⟩
        · intro _; show (0 : Int) ≤ (i : Int); omega
    | none =>
      refine ⟨-1, rfl, ?_⟩
      constructor
      · intro hh; omega
      · intro hc
        exfalso
        unfold ct at hc
        rw [List.any_eq_true] at hc
        obtain ⟨y, hy, hyw⟩ := hc
        obtain ⟨i, hi, rfl⟩ := List.mem_iff_getElem.mp hy
        have key : ∀ k j, firstP (fun j => (l[j]?).bind fun y => bif w == y.f0 then some (U33_0.mk (j : Int)) else none) k j = none → ∀ i, j ≤ i → i < j + k → ((l[i]?).bind fun y => bif w == y.f0 then some (U33_0.mk (i : Int)) else none) = none := by
          intro k
          induction k with
          | zero => intro j _ i h1 h2; omega
          | succ k ih =>
            intro j hq i h1 h2
            unfold firstP at hq
            split at hq
            · cases hq
            · rename_i hn
              rcases Nat.eq_or_lt_of_le h1 with rfl | h3
              · exact hn
              · exact ih (j + 1) hq i h3 (by omega)
        have := key _ _ hf i (by omega) (by omega)
        rw [List.getElem?_eq_getElem hi] at this
        simp only [Option.bind_some, hyw] at this
        cases this
  · unfold gR33_0
    have h1 : (j : Int) < (l.length : Int) := by omega
    have h2 : (0 : Int) ≤ (j : Int) := by omega
    simp only [get_br, get_opt, get_leaf, h1, h2, decide_true, cond_true, Int.toNat_natCast, List.getElem?_eq_getElem hj, Option.bind_some]
    rw [w64 (by omega)]
    cases w == l[j].f0 <;> rfl
  · unfold gR33_0
    simp only [get_br, get_leaf, Int.lt_irrefl, decide_false, cond_false]

theorem g32_eq (l : List S1) (w : Int) (hl : l.length ≤ 100) : g32 l w = some (ct l w) := by
  obtain ⟨r, h1, h2⟩ := loopIx l w hl
  unfold g32 g32T
  simp only [get_opt, get_leaf, h1, Option.bind_some]
  congr 1
  by_cases h : 0 ≤ r
  · rw [h2.mp h]; simpa using h
  · cases hc : ct l w with
    | true => exact absurd (h2.mpr hc) h
    | false => simpa using h

/-- What counters that are told by a test have together, from a place on. -/
def sm (T : S3) (p : Int → Bool) : Nat → Nat → Int
  | 0, _ => 0
  | k + 1, j => (bif p (j : Int) then gt T j else 0) + sm T p k (j + 1)

theorem sm_rg {T : S3} (h : Ok T) (p : Int → Bool) : ∀ k j, j + k ≤ 15 → 0 ≤ sm T p k j ∧ sm T p k j ≤ 1125899906842624 * (k : Int)
  | 0, j, _ => by simp [sm]
  | k + 1, j, hj => by
    have ih := sm_rg h p k (j + 1) (by omega)
    have hr := h.rg j (by omega)
    unfold sm
    cases p (j : Int) <;> simp only [cond_true, cond_false] <;> omega

theorem g23_eq {T : S3} (h : Ok T) (l : List S1) (hl : l.length ≤ 100) : g23_0 ⟨T, l⟩ = some ⟨sm T (ct l) 14 1⟩ := by
  obtain ⟨w, hw, hq⟩ := iter_inv (R := gR23_0) (fun j v => v.a0 = T ∧ v.a1 = l ∧ v.a4 = ((1 + j : Nat) : Int) ∧ j ≤ 14 ∧ (0 ≤ v.a3 ∧ v.a3 ≤ 1125899906842624 * (j : Int)) ∧ v.a3 + sm T (ct l) (14 - j) (1 + j) = sm T (ct l) 14 1) (fun w => w.a3 = sm T (ct l) 14 1) 14 (fun j v q => q.2.2.2.1)
    (fun j v ⟨e0, e1, e4, ej, er, es⟩ => by
      unfold gR23_0
      simp only [get_br, get_opt, get_leaf, e0, e1]
      by_cases hj : v.a4 ≤ 14
      · left
        have hj' : j < 14 := by omega
        have e4' : v.a4 = ((1 + j : Nat) : Int) := e4
        have hw4 : IntKind.i64.wrap (v.a4 + 1) = ((1 + (j + 1) : Nat) : Int) := by rw [w64 (by omega)]; omega
        have hr := h.rg (1 + j) (by omega)
        have hgp : getP T v.a4 = gt T (1 + j) := by
          unfold getP
          rw [if_pos (by unfold isW; omega), e4', Int.toNat_natCast]
        have hsm : sm T (ct l) (14 - j) (1 + j) = (bif ct l ((1 + j : Nat) : Int) then gt T (1 + j) else 0) + sm T (ct l) (14 - (j + 1)) (1 + (j + 1)) := by
          rw [show 14 - j = (14 - (j + 1)) + 1 by omega, sm]; rfl
        rw [hsm] at es
        have hcte : ct l v.a4 = ct l ((1 + j : Nat) : Int) := by rw [e4']
        simp only [hj, decide_true, cond_true, g32_eq l v.a4 hl, Option.bind_some, hw4, hcte]
        cases hc : ct l ((1 + j : Nat) : Int) with
        | true =>
          rw [hc] at es
          simp only [cond_true] at es ⊢
          rw [g11_eq h, hgp]
          simp only [Option.bind_some]
          refine ⟨_, rfl, ?_⟩
          have hw3 : IntKind.i64.wrap (v.a3 + gt T (1 + j)) = v.a3 + gt T (1 + j) := w64 (by omega)
          exact ⟨rfl, rfl, rfl, by omega, by dsimp only; rw [hw3]; omega, by dsimp only; rw [hw3]; omega⟩
        | false =>
          rw [hc] at es
          simp only [cond_false] at es ⊢
          refine ⟨_, rfl, ?_⟩
          exact ⟨rfl, rfl, rfl, by omega, by dsimp only; omega, by dsimp only; omega⟩
      · right
        simp only [hj, decide_false, cond_false]
        refine ⟨v, rfl, ?_⟩
        have : j = 14 := by omega
        subst this
        simpa [sm] using es) 2000000 0 ⟨T, l, 0, 0, 1⟩ ⟨rfl, rfl, rfl, by omega, by dsimp only; omega, by simp⟩ (by omega)
  unfold g23_0 g23_0T
  simp only [get_opt, get_br, get_leaf, hw, Option.bind_some, cond_false, hq]

theorem sm_or {T : S3} (p q : Int → Bool) (y : Int) (hq : ∀ w, q w = (p w || w == y)) (hp : p y = false) : ∀ k j, j + k ≤ 15 → sm T q k j = sm T p k j + (if (j : Int) ≤ y ∧ y < ((j + k : Nat) : Int) then gt T y.toNat else 0)
  | 0, j, _ => by simp [sm]; omega
  | k + 1, j, hj => by
    unfold sm
    rw [sm_or p q y hq hp k (j + 1) (by omega), hq]
    by_cases hy : (j : Int) = y
    · subst hy
      rw [hp, if_neg (by omega), if_pos (by omega), Int.toNat_natCast]
      simp [Int.add_comm]
    · have : ((j : Int) == y) = false := by simpa using hy
      rw [this, Bool.or_false]
      by_cases hh : ((j + 1 : Nat) : Int) ≤ y ∧ y < ((j + 1 + k : Nat) : Int)
      · rw [if_pos hh, if_pos (by omega)]; omega
      · rw [if_neg hh, if_neg (by omega)]; omega
theorem sm_congr {T : S3} (p q : Int → Bool) (h : ∀ w, q w = p w) : ∀ k j, sm T q k j = sm T p k j
  | 0, j => rfl
  | k + 1, j => by unfold sm; rw [sm_congr p q h k (j + 1), h]

theorem loopSeen (l N : List S1) (i : Nat) (hi : i < l.length) (hl : l.length ≤ 100) (y : S1) (hy : l[i]? = some y) (a1 a2 : Int) :
    ∃ w, iter gR24_2 2000000 ⟨l, a1, a2, i, false, 0, N⟩ = some (false, w) ∧ w.a0 = l ∧ w.a1 = a1 ∧ w.a2 = a2 ∧ w.a3 = i ∧ w.a4 = ct (l.take i) y.f0 ∧ w.a6 = N := by
  refine iter_inv (R := gR24_2) (fun j v => v.a0 = l ∧ v.a1 = a1 ∧ v.a2 = a2 ∧ v.a3 = i ∧ v.a5 = (j : Int) ∧ j ≤ i ∧ v.a4 = ct (l.take j) y.f0 ∧ v.a6 = N) (fun w => w.a0 = l ∧ w.a1 = a1 ∧ w.a2 = a2 ∧ w.a3 = i ∧ w.a4 = ct (l.take i) y.f0 ∧ w.a6 = N) 100 (fun j v q => by omega)
    (fun j v ⟨e0, e1, e2, e3, e5, ej, e4, e6⟩ => ?_) 2000000 0 _ ⟨rfl, rfl, rfl, rfl, rfl, by omega, rfl, rfl⟩ (by omega)
  unfold gR24_2
  simp only [get_br, get_opt, get_leaf, get_fail, e0, e3]
  by_cases hj : v.a5 < (i : Int)
  · left
    have hp : (0 : Int) ≤ v.a5 := by omega
    have hp3 : (0 : Int) ≤ (i : Int) := by omega
    have hw : IntKind.i64.wrap (v.a5 + 1) = ((j + 1 : Nat) : Int) := by rw [w64 (by omega)]; omega
    have hlj : l[Int.toNat v.a5]? = some l[j] := by rw [e5, Int.toNat_natCast, List.getElem?_eq_getElem (by omega)]
    have hct : ct (l.take (j + 1)) y.f0 = (ct (l.take j) y.f0 || y.f0 == l[j].f0) := by
      unfold ct
      rw [List.take_add_one, List.getElem?_eq_getElem (show j < l.length by omega), List.any_append]
      simp only [Option.toList_some, List.any_cons, List.any_nil, Bool.or_false]
    simp only [hj, decide_true, cond_true, hp, hlj, hp3, Int.toNat_natCast, hy, Option.bind_some, hw]
    rw [e4]
    cases hs : ct (l.take j) y.f0 with
    | true =>
      simp only [Bool.not_true, cond_false]
      refine ⟨_, rfl, ?_⟩
      exact ⟨rfl, e1, e2, rfl, rfl, by omega, by dsimp only; rw [hct, hs]; rfl, e6⟩
    | false =>
      simp only [Bool.not_false, cond_true]
      refine ⟨_, rfl, ?_⟩
      refine ⟨rfl, e1, e2, rfl, rfl, by omega, ?_, e6⟩
      dsimp only
      rw [hct, hs, Bool.false_or]
      by_cases q : l[j].f0 = y.f0
      · rw [q]
      · have q1 : (l[j].f0 == y.f0) = false := by simpa using q
        have q2 : (y.f0 == l[j].f0) = false := by simpa using fun h => q h.symm
        rw [q1, q2]
  · right
    simp only [hj, decide_false, cond_false]
    have : j = i := by omega
    subst this
    exact ⟨v, rfl, e0, e1, e2, e3, e4, e6⟩

theorem g24_eq {T : S3} (h : Ok T) (l : List S1) (hl : l.length ≤ 100) : g24 ⟨R T⟩ l = some (sm T (ct l) 14 1) := by
  obtain ⟨w, hw, hq⟩ := iter_inv (R := gR24_0) (fun j v => v.a0 = l ∧ v.a3 = (j : Int) ∧ j ≤ l.length ∧ v.a2 = sm T (ct (l.take j)) 14 1 ∧ v.a4 = R T) (fun w => w.a2 = sm T (ct l) 14 1) 100 (fun j v q => by omega)
    (fun j v ⟨e0, e3, ej, e2, e4⟩ => by
      unfold gR24_0
      simp only [get_br, get_opt, get_leaf, get_fail, e0, e3, e4]
      by_cases hj : (j : Int) < (l.length : Int)
      · left
        have hjl : j < l.length := by omega
        have hy : l[j]? = some l[j] := List.getElem?_eq_getElem hjl
        obtain ⟨w, hw, w0, w1, w2, w3, w4, w6⟩ := loopSeen l (R T) j hjl hl l[j] hy v.a1 v.a2
        have hp3 : (0 : Int) ≤ (j : Int) := by omega
        have hwj : IntKind.i64.wrap ((j : Int) + 1) = ((j + 1 : Nat) : Int) := by rw [w64 (by omega)]; omega
        have hct : ∀ q, ct (l.take (j + 1)) q = (ct (l.take j) q || q == l[j].f0) := by
          intro q
          unfold ct
          rw [List.take_add_one, hy, List.any_append]
          simp only [Option.toList_some, List.any_cons, List.any_nil, Bool.or_false]
        have r1 := sm_rg h (ct (l.take j)) 14 1 (by omega)
        have r2 := sm_rg h (ct (l.take (j + 1))) 14 1 (by omega)
        simp only [hj, decide_true, cond_true, hw, Option.bind_some, cond_false, w0, w1, w2, w3, w4, w6, hp3, Int.toNat_natCast, hy, g20_eq h, hwj]
        cases hs : ct (l.take j) l[j].f0 with
        | true =>
          simp only [Bool.not_true, cond_false]
          refine ⟨_, rfl, ?_⟩
          refine ⟨rfl, rfl, by omega, ?_, rfl⟩
          dsimp only
          rw [e2]
          refine (sm_congr _ _ (fun q => ?_) 14 1).symm
          rw [hct]
          by_cases hh : q = l[j].f0
          · rw [hh, hs]; rfl
          · have : (q == l[j].f0) = false := by simpa using hh
            rw [this, Bool.or_false]
        | false =>
          simp only [Bool.not_false, cond_true]
          refine ⟨_, rfl, ?_⟩
          have hso := sm_or (T := T) (ct (l.take j)) (ct (l.take (j + 1))) l[j].f0 hct hs 14 1 (by omega)
          have hg : getP T l[j].f0 = if ((1 : Nat) : Int) ≤ l[j].f0 ∧ l[j].f0 < ((1 + 14 : Nat) : Int) then gt T l[j].f0.toNat else 0 := by
            unfold getP
            by_cases hh : isW l[j].f0
            · have hh' := hh
              unfold isW at hh'
              rw [if_pos hh, if_pos (by omega)]
            · have hh' := hh
              unfold isW at hh'
              rw [if_neg hh, if_neg (by omega)]
          refine ⟨rfl, rfl, by omega, ?_, rfl⟩
          dsimp only
          rw [hg, e2, ← hso]
          exact w64 (by omega)
      · right
        simp only [hj, decide_false, cond_false]
        have : j = l.length := by omega
        subst this
        refine ⟨v, rfl, ?_⟩
        rw [e2, List.take_length]) 2000000 0 ⟨l, 0, 0, 0, R T⟩ ⟨rfl, rfl, by omega, by
          dsimp only
          have : ∀ k j, sm T (ct (l.take 0)) k j = 0 := by
            intro k
            induction k with
            | zero => intro j; rfl
            | succ k ih => intro j; unfold sm; rw [ih]; rfl
          exact (this 14 1).symm, rfl⟩ (by omega)
  unfold g24 g24T
  have hw' : iter gR24_0 2000000 ⟨l, 0, 0, 0, (S6.mk (R T)).f0⟩ = some (false, w) := hw
  simp only [get_opt, get_br, get_leaf, hw', Option.bind_some, cond_false, hq]

/-- Two rows that are one. -/
theorem same_self (l : List S1) (hl : l.length ≤ 100) : g21 l l = some true := by
  obtain ⟨w, hw, _⟩ := iter2_inv (R := gR21_0) (fun j v => v.a0 = l ∧ v.a1 = l ∧ v.a3 = (j : Int) ∧ j ≤ l.length) (fun _ => True) 100 (fun j v q => by omega)
    (fun j v ⟨e0, e1, e3, ej⟩ => by
      unfold gR21_0
      simp only [get_br, get_opt, get_leaf, get_fail, e0, e1, e3]
      by_cases hj : (j : Int) < (l.length : Int)
      · left
        have hp : (0 : Int) ≤ (j : Int) := by omega
        have hwj : IntKind.i64.wrap ((j : Int) + 1) = ((j + 1 : Nat) : Int) := by rw [w64 (by omega)]; omega
        have hne : ((l[j]'(by omega)).f0 != (l[j]'(by omega)).f0) = false := by simp
        simp only [hj, decide_true, cond_true, hp, Int.toNat_natCast, List.getElem?_eq_getElem (show j < l.length by omega), Option.bind_some, hne, cond_false, hwj]
        refine ⟨_, rfl, ?_⟩
        exact ⟨rfl, rfl, rfl, by omega⟩
      · right
        simp only [hj, decide_false, cond_false]
        exact ⟨v, rfl, trivial⟩) 2000000 0 ⟨l, l, false, 0⟩ ⟨rfl, rfl, rfl, by omega⟩ (by omega)
  unfold g21 g21T
  have hn : ((l.length : Int) != (l.length : Int)) = false := by simp
  simp only [get_br, get_opt, get_leaf, hn, cond_false, hw, Option.bind_some, Sum.isRight_inl, Sum.getLeft?_inl]

end Ab22
