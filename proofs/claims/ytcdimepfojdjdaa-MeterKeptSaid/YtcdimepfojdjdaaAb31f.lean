/- Seat 31: the plain laws: what keeps to what is committed is green. -/
import Derived.Test.YtcdimepfojdjdaaAb31e
set_option maxRecDepth 100000
set_option maxHeartbeats 1000000
set_option linter.unusedVariables false
set_option linter.unusedSimpArgs false
namespace Ab31
open Go Ab

def okK (C : S7) : Prop := (1 ≤ C.f0 ∧ C.f0 ≤ 300) ∧ (2048 ≤ C.f1 ∧ C.f1 ≤ 5047)

/-- What has come since a tick that is not long ago. -/
theorem cm_mul {r d : Int} (hr : 1 ≤ r ∧ r ≤ 300) (hd : 0 ≤ d ∧ d ≤ 10000) : cm r d = r * d := by
  unfold cm
  rw [if_neg]
  intro h
  have h1 : 8589934592 / r ≥ 28633115 := by
    have : 28633115 ≤ 8589934592 / r := (Int.le_ediv_iff_mul_le (by omega)).mpr (by omega)
    exact this
  omega

theorem waitK (C : S7) (hC : okK C) (n : Int) (hn : 1 ≤ n ∧ n ≤ 2048) (m : S3) (T : Int) (hT : 0 ≤ T ∧ T ≤ 1000000) (hm8 : m.f8 ≤ T) (v : W3_2v1) (e2 : v.a2 = T) (e3 : 0 ≤ v.a3 ∧ v.a3 ≤ C.f1) (e5 : v.a5 = n) (e6 : v.a6 = C) (e7 : v.a7 = m)
    (hb : C.f1 ≤ v.a3 + m.f6 + C.f0 * (v.a2 - m.f8)) :
    ∃ w, iter gR3_2v1 1000000 v = some (false, w) ∧ w.a0 = v.a0 ∧ w.a1 = v.a1 ∧ w.a4 = v.a4 ∧ w.a5 = n ∧ w.a6 = C ∧ w.a7 = m ∧ (T ≤ w.a2 ∧ w.a2 ≤ T + 5047) ∧ 0 ≤ w.a3 ∧ w.a3 + n ≤ C.f1 ∧ C.f1 ≤ w.a3 + m.f6 + C.f0 * (w.a2 - m.f8) := by
  refine iter_inv (R := gR3_2v1) (fun j w => w.a0 = v.a0 ∧ w.a1 = v.a1 ∧ w.a4 = v.a4 ∧ w.a5 = n ∧ w.a6 = C ∧ w.a7 = m ∧ w.a2 = T + j ∧ 0 ≤ w.a3 ∧ w.a3 + j ≤ C.f1 ∧ C.f1 ≤ w.a3 + m.f6 + C.f0 * (w.a2 - m.f8))
    (fun w => w.a0 = v.a0 ∧ w.a1 = v.a1 ∧ w.a4 = v.a4 ∧ w.a5 = n ∧ w.a6 = C ∧ w.a7 = m ∧ (T ≤ w.a2 ∧ w.a2 ≤ T + 5047) ∧ 0 ≤ w.a3 ∧ w.a3 + n ≤ C.f1 ∧ C.f1 ≤ w.a3 + m.f6 + C.f0 * (w.a2 - m.f8)) 5047 (fun j w h => by have := hC.2; omega)
    (fun j w ⟨q0, q1, q4, q5, q6, q7, q2, q3, q8, q9⟩ => ?_) 1000000 0 v ⟨rfl, rfl, rfl, e5, e6, e7, by omega, e3.1, by omega, hb⟩ (by omega)
  obtain ⟨hc0, hc1⟩ := hC
  have hw : IntKind.i64.wrap (w.a3 + w.a5) = w.a3 + n := by rw [q5]; exact w64 (by omega)
  unfold gR3_2v1
  simp only [get_br, get_leaf, hw, q6]
  by_cases h : w.a3 + n > C.f1
  · left
    have hw2 : IntKind.i64.wrap (w.a2 + 1) = w.a2 + 1 := w64 (by omega)
    have hw3 : IntKind.i64.wrap (w.a3 - C.f0) = w.a3 - C.f0 := w64 (by omega)
    have hmx : 0 ≤ mxI 0 (w.a3 - C.f0) ∧ w.a3 - C.f0 ≤ mxI 0 (w.a3 - C.f0) ∧ mxI 0 (w.a3 - C.f0) + 1 ≤ w.a3 := by unfold mxI; split <;> omega
    simp only [h, decide_true, cond_true, hw2, hw3]
    refine ⟨_, rfl, ?_⟩
    refine ⟨q0, q1, q4, q5, rfl, q7, by dsimp only; omega, hmx.1, by dsimp only; omega, ?_⟩
    dsimp only
    have e1 : C.f0 * (w.a2 + 1 - m.f8) = C.f0 * (w.a2 - m.f8) + C.f0 := by rw [show w.a2 + 1 - m.f8 = (w.a2 - m.f8) + 1 by omega, Int.mul_add, Int.mul_one]
    rw [e1]
    omega
  · right
    simp only [h, decide_false, cond_false]
    refine ⟨w, rfl, ?_⟩
    exact ⟨q0, q1, q4, q5, q6, q7, by omega, q3, by omega, q9⟩

theorem loopK (C : S7) (hC : okK C) (l : List S0) (hl : ∀ y ∈ l, 0 ≤ y.f0 ∧ y.f0 ≤ 65535) (v : W3_0v1) (h0 : v.a0 = l) (h2 : v.a2 = 0) (h3 : v.a3 = 0) (h4 : v.a4 = 0) (h5 : v.a5 = C) (hm : Cf v.a6) (hc : v.a6.f0 = C.f0 ∧ v.a6.f1 = C.f1) (h8 : v.a6.f8 = 0) (hg : v.a6.f6 = C.f1) :
    ∃ w, iter2 gR3_0v1 1000000 v = some (.inl w) := by
  have := iter2_inv (R := gR3_0v1) (fun j v => v.a0 = l ∧ v.a4 = (j : Int) ∧ j ≤ 100 ∧ v.a5 = C ∧ Cf v.a6 ∧ (v.a6.f0 = C.f0 ∧ v.a6.f1 = C.f1) ∧ (0 ≤ v.a2 ∧ v.a2 ≤ 5047 * (j : Int)) ∧ v.a6.f8 = v.a2 ∧ (0 ≤ v.a3 ∧ v.a3 ≤ C.f1) ∧ C.f1 ≤ v.a3 + v.a6.f6) (fun _ => True) 100 (fun j v h => h.2.2.1)
    (fun j v ⟨e0, e4, ej, e5, hm, hc, e2, e8, e3, eb⟩ => ?_) 1000000 0 v ⟨h0, by simpa using h4, by omega, h5, hm, hc, by omega, by rw [h8, h2], by have := hC.2; omega, by omega⟩ (by omega)
  · obtain ⟨w, hw, _⟩ := this; exact ⟨w, hw⟩
  have stop : (bif (decide (v.a4 < (v.a0.length : Int))) then (decide (v.a4 < 100)) else false) = false → ∃ w, (gR3_0v1 v).get? = some (.inr (.inl w)) ∧ True := by
    intro hg
    unfold gR3_0v1
    simp only [get_br, get_leaf, hg, cond_false]
    exact ⟨_, rfl, trivial⟩
  by_cases hl' : v.a4 < (v.a0.length : Int)
  · by_cases hj : v.a4 < 100
    · left
      have hg : (bif (decide (v.a4 < (v.a0.length : Int))) then (decide (v.a4 < 100)) else false) = true := by simp [hl', hj]
      have hp : (0 : Int) ≤ v.a4 := by omega
      obtain ⟨y, hy⟩ : ∃ y, v.a0[Int.toNat v.a4]? = some y := by
        rw [List.getElem?_eq_getElem (by omega)]; exact ⟨_, rfl⟩
      have hyr := hl y (by rw [← e0]; exact List.mem_of_getElem? hy)
      have hwy : IntKind.i64.wrap y.f0 = y.f0 := w64 (by omega)
      have hn : IntKind.i64.wrap (1 + remI (IntKind.i64.wrap y.f0) 2048) = 1 + y.f0 % 2048 := by
        rw [hwy, remI_eq _ hyr.1]; exact w64 (by omega)
      have hnr : 1 ≤ 1 + y.f0 % 2048 ∧ 1 + y.f0 % 2048 ≤ 2048 := by omega
      generalize 1 + y.f0 % 2048 = n at hn hnr
      obtain ⟨w, hw, w0, w1, w4, w5, w6, w7, w2, w3, wn, wb⟩ := waitK C hC n hnr v.a6 v.a2 ⟨e2.1, by omega⟩ (by omega) ⟨v.a0, v.a1, v.a2, v.a3, v.a4, n, v.a5, v.a6⟩ rfl e3 rfl e5 rfl (by dsimp only; rw [e8, Int.sub_self, Int.mul_zero]; omega)
      have h8 : v.a6.f8 ≤ w.a2 ∧ w.a2 ≤ 1099511627776 := by omega
      have hmk := g10_eq hm w.a2 n 1
      have hF := fill_cf hm h8
      obtain ⟨hc0, hc1⟩ := hC
      have hgr : n ≤ (fillP v.a6 w.a2).f6 ∧ C.f1 ≤ w.a3 + (fillP v.a6 w.a2).f6 := by
        have e6 : (fillP v.a6 w.a2).f6 = mnI (v.a6.f6 + cm v.a6.f0 (w.a2 - v.a6.f8)) v.a6.f1 := rfl
        rw [e6, hc.1, hc.2, cm_mul hc0 (by omega)]
        unfold mnI
        split <;> omega
      have hP : markP v.a6 w.a2 n 1 = ({ fillP v.a6 w.a2 with f6 := (fillP v.a6 w.a2).f6 - n }, 1, 0) := by
        unfold markP
        rw [if_neg (by simpa using h8), if_neg (by omega), if_pos ⟨.inr rfl, hgr.1⟩]
      have hcf := mark_cf hm w.a2 n 1
      rw [hP] at hmk hcf
      unfold gR3_0v1
      simp only [get_br, get_opt, get_leaf, get_fail, hg, cond_true, hp, decide_true, hy, Option.bind_some, hn, hw, cond_false, w5, w7, hmk]
      refine ⟨_, rfl, ?_⟩
      have hwo : IntKind.i64.wrap (w.a3 + n) = w.a3 + n := w64 (by omega)
      have hw4 : IntKind.i64.wrap (w.a4 + 1) = w.a4 + 1 := w64 (by rw [w4]; dsimp only; omega)
      refine ⟨w0.trans e0, ?_, by omega, w6, hcf, ⟨hc.1, hc.2⟩, by dsimp only; omega, rfl, ?_, ?_⟩
      · dsimp only; rw [hw4, w4]; dsimp only; omega
      · dsimp only; rw [hwo]; omega
      · dsimp only; rw [hwo]; omega
    · right; exact stop (by simp [hl', hj])
  · right; exact stop (by simp [hl'])

theorem law3 (x : S7) (l : List S0) (hl : ∀ y ∈ l, 0 ≤ y.f0 ∧ y.f0 ≤ 65535) : g3 x l = some true := by
  unfold g3 g3T
  have hC := small_ok x
  generalize g7 x = C at hC
  obtain ⟨o0, o1, o2, o3⟩ := hC
  have w0 : IntKind.i64.wrap (1 + C.f0) = 1 + C.f0 := w64 (by omega)
  have w1 : IntKind.i64.wrap (C.f1 + 2048) = C.f1 + 2048 := w64 (by omega)
  have hok : okC { C with f0 := 1 + C.f0, f1 := C.f1 + 2048 } := ⟨by dsimp only; omega, by dsimp only; omega, by dsimp only; omega, by dsimp only; omega⟩
  obtain ⟨w, hw⟩ := loopK { C with f0 := 1 + C.f0, f1 := C.f1 + 2048 } ⟨by dsimp only; omega, by dsimp only; omega⟩ l hl ⟨l, false, 0, 0, 0, { C with f0 := 1 + C.f0, f1 := C.f1 + 2048 }, ⟨1 + C.f0, C.f1 + 2048, C.f2, C.f3, C.f4, C.f5, C.f1 + 2048, C.f3, 0, true⟩⟩ rfl rfl rfl rfl rfl (new_cf hok) ⟨rfl, rfl⟩ rfl rfl
  simp only [w0, w1, g13_eq, hok, if_true, get_br, awake, get_optS, get_opt, get_leaf, hw, Option.bind_some, Sum.isRight_inl, cond_false, Sum.getLeft?_inl]
  rfl

end Ab31
