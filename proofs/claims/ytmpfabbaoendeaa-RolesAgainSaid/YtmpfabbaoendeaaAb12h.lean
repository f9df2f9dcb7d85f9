/- Seat 12: the plain laws, last part. -/
import Derived.Test.YtmpfabbaoendeaaAb12g
set_option maxRecDepth 100000
set_option maxHeartbeats 1000000
set_option linter.unusedVariables false
set_option linter.unusedSimpArgs false
namespace Ab12
open Go Ab

structure Keeps (F : Nat → S0 → S0) : Prop where
  k29 : ∀ i p, (F i p).f29 = p.f29
  kp : ∀ i p, pri (F i p) = pri p
  k1 : ∀ i p, (F i p).f1 = p.f1
  k0 : ∀ i p, (F i p).f0 = p.f0
theorem keeps_wq (x : S5) (v : S4) (tm : S3) (m : Int) : Keeps (wq x v tm m) := by
  refine ⟨fun i p => ?_, fun i p => wq_pri .., fun i p => ?_, fun i p => ?_⟩ <;> unfold wq
  · rw [wan29]; rfl
  · rw [wan1]; rfl
  · rw [wan0]; rfl
theorem cand_keeps {F : Nat → S0 → S0} (k : Keeps F) (id : Int) (i : Nat) (p : S0) : cand id (F i p) = cand id p := by
  have : (F i p).f38 = p.f38 := congrArg S4.f2 (k.kp i p)
  unfold cand
  rw [k.k29, k.kp, k.k1, this]
theorem rt_keeps {F : Nat → S0 → S0} (k : Keeps F) (L : List S0) (id : Int) : ∀ j, rt (L.mapIdx F) id j = rt L id j
  | 0 => rfl
  | j + 1 => by
    unfold rt
    rw [rt_keeps k L id j, List.getElem?_mapIdx]
    cases L[j]? with
    | none => rfl
    | some p =>
      simp only [Option.map_some]
      unfold rt1
      rw [cand_keeps k]
      have : idlt (L.mapIdx F) (rt L id j).2 (F j p) = idlt L (rt L id j).2 p := by
        unfold idlt
        rw [List.getElem?_mapIdx]
        cases L[(rt L id j).2.toNat]? with
        | none => rfl
        | some q => simp only [Option.map_some, k.k0]
      rw [this]

theorem sel_sel (x : S5) : sel (sel x) = sel x := by
  have hr : rt (sel x).f16 (sel x).f0 (sel x).f16.length = rt x.f16 x.f0 x.f16.length := by
    rw [sel_len]; exact rt_keeps (keeps_wq ..) ..
  have hT : ∀ m, selT (sel x) m = selT x m := by
    intro m
    unfold selT
    show (match (x.f16.mapIdx (wq x (rt x.f16 x.f0 x.f16.length).1 (selT x (rt x.f16 x.f0 x.f16.length).2) (rt x.f16 x.f0 x.f16.length).2))[m.toNat]? with | some q => _ | none => _) = _
    rw [List.getElem?_mapIdx]
    cases x.f16[m.toNat]? with
    | none => rfl
    | some q =>
      simp only [Option.map_some]
      have : S3.mk (wq x (rt x.f16 x.f0 x.f16.length).1 (selT x (rt x.f16 x.f0 x.f16.length).2) (rt x.f16 x.f0 x.f16.length).2 m.toNat q).f44 (wq x (rt x.f16 x.f0 x.f16.length).1 (selT x (rt x.f16 x.f0 x.f16.length).2) (rt x.f16 x.f0 x.f16.length).2 m.toNat q).f45 (wq x (rt x.f16 x.f0 x.f16.length).1 (selT x (rt x.f16 x.f0 x.f16.length).2) (rt x.f16 x.f0 x.f16.length).2 m.toNat q).f46 (wq x (rt x.f16 x.f0 x.f16.length).1 (selT x (rt x.f16 x.f0 x.f16.length).2) (rt x.f16 x.f0 x.f16.length).2 m.toNat q).f47 = S3.mk q.f44 q.f45 q.f46 q.f47 := by
        unfold wq; rw [wan44]; rfl
      rw [this]; rfl
  have hP : ∀ m, selP (sel x) m = selP x m := by
    intro m
    unfold selP
    show (match (x.f16.mapIdx (wq x (rt x.f16 x.f0 x.f16.length).1 (selT x (rt x.f16 x.f0 x.f16.length).2) (rt x.f16 x.f0 x.f16.length).2))[m.toNat]? with | some q => _ | none => _) = _
    rw [List.getElem?_mapIdx]
    cases x.f16[m.toNat]? with
    | none => rfl
    | some q => simp only [Option.map_some, (keeps_wq ..).k0]
  have hl : (sel x).f16.mapIdx (wq (sel x) (rt x.f16 x.f0 x.f16.length).1 (selT x (rt x.f16 x.f0 x.f16.length).2) (rt x.f16 x.f0 x.f16.length).2) = (sel x).f16 := by
    show (x.f16.mapIdx (wq x (rt x.f16 x.f0 x.f16.length).1 (selT x (rt x.f16 x.f0 x.f16.length).2) (rt x.f16 x.f0 x.f16.length).2)).mapIdx (wq (sel x) (rt x.f16 x.f0 x.f16.length).1 (selT x (rt x.f16 x.f0 x.f16.length).2) (rt x.f16 x.f0 x.f16.length).2) = x.f16.mapIdx (wq x (rt x.f16 x.f0 x.f16.length).1 (selT x (rt x.f16 x.f0 x.f16.length).2) (rt x.f16 x.f0 x.f16.length).2)
    apply List.ext_getElem?
    intro i
    simp only [List.getElem?_mapIdx]
    cases x.f16[i]? with
    | none => rfl
    | some p =>
      simp only [Option.map_some]
      congr 1
      exact wan_wan x.f0 p _ _ _ x
  show ({ sel x with f7 := selP (sel x) (rt (sel x).f16 (sel x).f0 (sel x).f16.length).2, f8 := (rt (sel x).f16 (sel x).f0 (sel x).f16.length).1.f0, f9 := (rt (sel x).f16 (sel x).f0 (sel x).f16.length).1.f1, f10 := (rt (sel x).f16 (sel x).f0 (sel x).f16.length).1.f2, f11 := (rt (sel x).f16 (sel x).f0 (sel x).f16.length).1.f3, f12 := (selT (sel x) (rt (sel x).f16 (sel x).f0 (sel x).f16.length).2).f0, f13 := (selT (sel x) (rt (sel x).f16 (sel x).f0 (sel x).f16.length).2).f1, f14 := (selT (sel x) (rt (sel x).f16 (sel x).f0 (sel x).f16.length).2).f2, f15 := (selT (sel x) (rt (sel x).f16 (sel x).f0 (sel x).f16.length).2).f3, f16 := (sel x).f16.mapIdx (wq (sel x) (rt (sel x).f16 (sel x).f0 (sel x).f16.length).1 (selT (sel x) (rt (sel x).f16 (sel x).f0 (sel x).f16.length).2) (rt (sel x).f16 (sel x).f0 (sel x).f16.length).2) } : S5) = _
  rw [hr, hT, hP, hl]
  rfl

theorem sel_ok {x : S5} (ho : Tok x) : Tok (sel x) := by
  refine ⟨ho.1, fun p hp => ?_⟩
  obtain ⟨i, hi, he⟩ := List.mem_mapIdx.mp hp
  rw [← he]
  exact wq_pok (ho.2 x.f16[i] (List.getElem_mem hi))

theorem law9 {x : S5} (ho : Tok x) : g9 x = some true := by
  obtain ⟨y, hy, hl, ht⟩ := few_ok x
  have ho := ht ho
  have hz := sel_ok ho
  have hzl : (sel y).f16.length ≤ 1000 := by rw [sel_len]; omega
  have hsame := same_self (sel y) hzl
  have hno : (sel y).f16.any (fun p => p.f21) = false := by
    rw [List.any_eq_false]
    intro p hp
    obtain ⟨i, hi, he⟩ := List.mem_mapIdx.mp hp
    have : p.f21 = false := by rw [← he]; unfold wq; rw [wan21]; rfl
    simp [this]
  simp only [g9, g9T, hy, get_optS, g15_eq ho (by omega), g20_eq hz hzl, g15_eq hz hzl, sel_sel, hsame, cond_true]
  unfold stp
  cases h6 : (sel y).f6 with
  | true =>
    rw [hno]
    simp only [Bool.false_eq_true, if_false, if_true, get_br, h6, cond_true, cond_false, hsame, get_optS, awake_true, get_leaf]
    rfl
  | false =>
    simp only [Bool.false_eq_true, if_false, get_br]
    simp only [awake_true, get_optS, get_leaf, get_br]
    rfl

end Ab12
