/- Seat 06, second form: the plain law of VectorMakes. -/
import Derived.Test.YtnbcmbbhmknbbaaAb06xb
import Derived.Test.YtnbcmbbhmknbbaaAbArith
set_option maxRecDepth 100000
set_option maxHeartbeats 4000000
set_option linter.unusedVariables false
set_option linter.unusedSimpArgs false
namespace Ab06x
open Go Ab

theorem ev_some {α β γ : Type} {z : γ} {f : γ → Tr α} {K : α → β} : (Tr.opt (some z) f).ev K = (f z).ev K := rfl
theorem ev_br {α β : Type} {b : Bool} {x y : Tr α} {K : α → β} : (Tr.br b x y).ev K = bif b then x.ev K else y.ev K := rfl
theorem ev_leaf {α β : Type} {a : α} {K : α → β} : (Tr.leaf a).ev K = some (K a) := rfl

def Vok (v : S0) : Prop := (0 ≤ v.f0 ∧ v.f0 ≤ 18446744073709551615) ∧ (0 ≤ v.f1 ∧ v.f1 ≤ 4294967295) ∧ (0 ≤ v.f2 ∧ v.f2 ≤ 18446744073709551615) ∧ (0 ≤ v.f3 ∧ v.f3 ≤ 65535)
theorem vok_of {v : S0} (h : All2 KC.has (kd 0) (Cod.enc 0 v)) : Vok v := ⟨rg_u64 (fld h 0 rfl rfl), rg_u32 (fld h 1 rfl rfl), rg_u64 (fld h 2 rfl rfl), rg_u16 (fld h 3 rfl rfl)⟩

theorem awake_true : g16 = some true := by kernel_rfl

theorem g13_eq (v u : S0) : g13 v u = decide (v.f0 < u.f0 ∨ (v.f0 = u.f0 ∧ (v.f1 < u.f1 ∨ (v.f1 = u.f1 ∧ (v.f2 < u.f2 ∨ (v.f2 = u.f2 ∧ v.f3 < u.f3)))))) := by
  simp only [g13, g13T, Tr.get, bne, Bool.cond_eq_ite, Bool.not_eq_true', beq_eq_false_iff_ne, ne_eq]
  repeat' split
  all_goals (rw [decide_eq_decide]; omega)

theorem better_eq {v u : S0} (h : Vok v) (k : Vok u) : g12 v u = g13 v u := by
  rw [g13_eq]
  obtain ⟨_, h1, _, h3⟩ := h
  obtain ⟨_, k1, _, k3⟩ := k
  simp only [g12, g12T, g10, g10T, Tr.get, IntWalk.u64_in v.f1 (by omega), IntWalk.u64_in u.f1 (by omega), IntWalk.u64_in v.f3 (by omega), IntWalk.u64_in u.f3 (by omega), Bool.cond_decide]
  rw [decide_eq_decide]
  repeat' split
  all_goals omega

/-- The place of the best, from place i on. -/
def bestF (L : List S0) : Nat → Int → Nat → Int
  | 0, m, _ => m
  | k + 1, m, i => match L[i]? with
    | none => m
    | some y => bestF L k (if m < 0 then (i : Int) else match L[m.toNat]? with
      | some z => bif g13 y z then (i : Int) else m
      | none => m) (i + 1)

theorem loopA {L : List S0} (hL : ∀ x ∈ L, Vok x) (hl : L.length ≤ 40) {c : Int} : ∀ (k : Nat) (m : Int) (i n : Nat), i + k = L.length → (m < 0 ∨ (0 ≤ m ∧ m.toNat < L.length)) → k < n →
    iter gR21_0 n ⟨L, c, m, L, (L.length : Int), (i : Int)⟩ = some (false, ⟨L, c, bestF L k m i, L, (L.length : Int), (L.length : Int)⟩)
  | 0, m, i, n, hi, hm, hn => by
    obtain ⟨n, rfl⟩ : ∃ q, n = q + 1 := ⟨n - 1, by omega⟩
    have : (i : Int) = (L.length : Int) := by omega
    unfold iter
    simp only [gR21_0, this, Int.lt_irrefl, decide_false, Tr.get?, ev_some, ev_br, ev_leaf, cond_false, id, bestF]
  | k + 1, m, i, n, hi, hm, hn => by
    obtain ⟨n, rfl⟩ : ∃ q, n = q + 1 := ⟨n - 1, by omega⟩
    have hil : i < L.length := by omega
    have hy : L[i]? = some L[i] := List.getElem?_eq_getElem hil
    have ih := fun m' hm' => loopA hL hl (c := c) k m' (i + 1) n (by omega) hm' (by omega)
    have hw : IntKind.i64.wrap ((i : Int) + 1) = ((i + 1 : Nat) : Int) := by rw [IntWalk.i64_in _ (by omega)]; omega
    unfold iter
    simp only [gR21_0, Tr.get?, ev_some, ev_br, ev_leaf, Int.toNat_natCast, hy, hw, decide_eq_true (show (i : Int) < (L.length : Int) by omega), decide_eq_true (show (0 : Int) ≤ (i : Int) by omega), cond_true]
    by_cases a : m < 0
    · simp only [decide_eq_true a, Bool.not_true, cond_false, id]
      rw [ih (i : Int) (.inr ⟨by omega, by simpa using hil⟩)]
      simp only [bestF, hy, if_pos a]
    · obtain ⟨h0, h1⟩ : 0 ≤ m ∧ m.toNat < L.length := by rcases hm with h | h; exact absurd h a; exact h
      have hz : L[m.toNat]? = some L[m.toNat] := List.getElem?_eq_getElem h1
      simp only [decide_eq_false a, Bool.not_false, cond_true, ev_some, ev_br, ev_leaf, decide_eq_true h0, hz, better_eq (hL _ (List.getElem_mem hil)) (hL _ (List.getElem_mem h1))]
      cases g : g13 L[i] L[m.toNat]
      · simp only [cond_false, id]
        rw [ih m (.inr ⟨h0, h1⟩)]
        simp only [bestF, hy, if_neg a, hz, g, cond_false]
      · simp only [cond_true, id]
        rw [ih (i : Int) (.inr ⟨by omega, by simpa using hil⟩)]
        simp only [bestF, hy, if_neg a, hz, g, cond_true]

theorem loopB {L : List S0} (hl : L.length ≤ 40) {c : Int} : ∀ (k : Nat) (m : Int) (i n : Nat), i + k = L.length → (m < 0 ∨ (0 ≤ m ∧ m.toNat < L.length)) → k < n →
    iter gR22_0 n ⟨L, c, m, (i : Int)⟩ = some (false, ⟨L, c, bestF L k m i, (L.length : Int)⟩)
  | 0, m, i, n, hi, hm, hn => by
    obtain ⟨n, rfl⟩ : ∃ q, n = q + 1 := ⟨n - 1, by omega⟩
    have : (i : Int) = (L.length : Int) := by omega
    unfold iter
    simp only [gR22_0, this, Int.lt_irrefl, decide_false, Tr.get?, ev_some, ev_br, ev_leaf, cond_false, id, bestF]
  | k + 1, m, i, n, hi, hm, hn => by
    obtain ⟨n, rfl⟩ : ∃ q, n = q + 1 := ⟨n - 1, by omega⟩
    have hil : i < L.length := by omega
    have hy : L[i]? = some L[i] := List.getElem?_eq_getElem hil
    have ih := fun m' hm' => loopB hl (c := c) k m' (i + 1) n (by omega) hm' (by omega)
    have hw : IntKind.i64.wrap ((i : Int) + 1) = ((i + 1 : Nat) : Int) := by rw [IntWalk.i64_in _ (by omega)]; omega
    unfold iter
    simp only [gR22_0, Tr.get?, ev_some, ev_br, ev_leaf, Int.toNat_natCast, hy, hw, decide_eq_true (show (i : Int) < (L.length : Int) by omega), decide_eq_true (show (0 : Int) ≤ (i : Int) by omega), cond_true]
    by_cases a : m < 0
    · simp only [decide_eq_true a, Bool.not_true, cond_false, id]
      rw [ih (i : Int) (.inr ⟨by omega, by simpa using hil⟩)]
      simp only [bestF, hy, if_pos a]
    · obtain ⟨h0, h1⟩ : 0 ≤ m ∧ m.toNat < L.length := by rcases hm with h | h; exact absurd h a; exact h
      have hz : L[m.toNat]? = some L[m.toNat] := List.getElem?_eq_getElem h1
      simp only [decide_eq_false a, Bool.not_false, cond_true, ev_some, ev_br, ev_leaf, decide_eq_true h0, hz]
      cases g : g13 L[i] L[m.toNat]
      · simp only [cond_false, id]
        rw [ih m (.inr ⟨h0, h1⟩)]
        simp only [bestF, hy, if_neg a, hz, g, cond_false]
      · simp only [cond_true, id]
        rw [ih (i : Int) (.inr ⟨by omega, by simpa using hil⟩)]
        simp only [bestF, hy, if_neg a, hz, g, cond_true]

theorem bestA {L : List S0} (hL : ∀ x ∈ L, Vok x) (hl : L.length ≤ 40) : g21 L = some (bestF L L.length (-1) 0) := by
  have h := loopA hL hl (c := 0) L.length (-1) 0 1000000 (by omega) (.inl (by omega)) (by omega)
  simp only [g21, g21T, Tr.get?, ev_some, ev_br, ev_leaf]
  rw [show ((0 : Nat) : Int) = 0 from rfl] at h
  rw [h]
  rfl
theorem bestB {L : List S0} (hl : L.length ≤ 40) : g22 L = some (bestF L L.length (-1) 0) := by
  have h := loopB hl (c := 0) L.length (-1) 0 1000000 (by omega) (.inl (by omega)) (by omega)
  simp only [g22, g22T, Tr.get?, ev_some, ev_br, ev_leaf]
  rw [show ((0 : Nat) : Int) = 0 from rfl] at h
  rw [h]
  rfl

theorem law6 {x0 : S0} {x1 x2 : Int} {L : List S0} (hL : ∀ x ∈ L, All2 KC.has (kd 0) (Cod.enc 0 x)) : g6 x0 x1 x2 L = some true := by
  have hV : ∀ x ∈ L, Vok x := fun x hx => vok_of (hL x hx)
  have e1 : g17 x0 x1 = g18 x0 x1 := rfl
  have e2 : g19 x2 = g20 x2 := rfl
  simp only [g6, g6T, Tr.get?, ev_some, ev_br, ev_leaf, e1, e2, beq_self_eq_true, Bool.and_self, cond_true, awake_true, id]
  by_cases a : (L.length : Int) > 40
  · have ht : (List.take (Int.toNat 40) L).length ≤ 40 := by
      rw [List.length_take]; exact Nat.min_le_left _ _
    have hVt : ∀ x ∈ List.take (Int.toNat 40) L, Vok x := fun x hx => hV x (List.mem_of_mem_take hx)
    simp only [decide_eq_true a, cond_true, show (decide ((0 : Int) ≤ 40)) = true from rfl, decide_eq_true (show (40 : Int) ≤ (L.length : Int) by omega), Bool.and_self, bestA hVt ht, bestB ht, ev_some, ev_br, ev_leaf, beq_self_eq_true, id]
    rfl
  · have ht : L.length ≤ 40 := by omega
    simp only [decide_eq_false a, cond_false, bestA hV ht, bestB ht, ev_some, ev_br, ev_leaf, beq_self_eq_true, cond_true, id]

end Ab06x
