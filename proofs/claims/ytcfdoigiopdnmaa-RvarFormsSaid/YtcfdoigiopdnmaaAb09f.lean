/- Seat 09: the plain laws, fourth part: timers run out. -/
import Derived.Test.YtcfdoigiopdnmaaAb09e
set_option maxRecDepth 100000
set_option maxHeartbeats 1000000
set_option linter.unusedVariables false
set_option linter.unusedSimpArgs false
namespace Ab09
open Go Ab

def B8 (n : Int) : Prop := 0 ≤ n ∧ n ≤ 255
def Pok (p : S1) : Prop := B8 p.f64 ∧ B8 p.f65 ∧ B8 p.f66 ∧ B8 p.f67 ∧ B8 p.f68 ∧ B8 p.f69 ∧ B8 p.f70 ∧ B8 p.f71
def Tok (x : S7) : Prop := ∀ p ∈ x.f16, Pok p
theorem pok_of {p : S1} (h : All2 KC.has (kd 1) (Cod.enc 1 p)) : Pok p :=
  ⟨rg_u8 (fld h 64 rfl rfl), rg_u8 (fld h 65 rfl rfl), rg_u8 (fld h 66 rfl rfl), rg_u8 (fld h 67 rfl rfl), rg_u8 (fld h 68 rfl rfl), rg_u8 (fld h 69 rfl rfl), rg_u8 (fld h 70 rfl rfl), rg_u8 (fld h 71 rfl rfl)⟩
theorem tok_of {x : S7} (h : All2 (CK.has kd) ks7 (enc7 x)) : Tok x := fun p hp => pok_of ((fldMR h 16 rfl rfl).2 p hp)

theorem few_tok {x y : S7} (h : g12 x = some y) (ho : Tok x) : Tok y := by
  simp only [g12, g12T, get_br] at h
  have hm : mnI (x.f16.length : Int) 10 = ((min x.f16.length 10 : Nat) : Int) := by unfold mnI; split <;> omega
  rw [hm, Int.toNat_natCast] at h
  have hl : (List.take (min x.f16.length 10) x.f16).length = min x.f16.length 10 := by simp
  rw [decide_eq_true (show (0 : Int) ≤ ((min x.f16.length 10 : Nat) : Int) by omega), decide_eq_true (show ((min x.f16.length 10 : Nat) : Int) ≤ (x.f16.length : Int) by omega)] at h
  simp only [Bool.and_self, cond_true, room_small (show 248 ≤ 1000000 by omega) (show 0 + (List.take (min x.f16.length 10) x.f16).length ≤ 1000 by omega)] at h
  cases he : (List.take (min x.f16.length 10) x.f16).isEmpty
  · rw [he] at h
    simp only [cond_false, get_leaf, Option.some.injEq] at h
    rw [← h]
    exact fun p hp => ho p (List.mem_of_mem_take hp)
  · rw [he] at h
    simp only [cond_true, get_leaf, Option.some.injEq] at h
    rw [← h]
    exact fun p hp => by simp at hp
theorem few_self {y : S7} (hl : y.f16.length ≤ 10) : g12 y = some y := by
  simp only [g12, g12T, get_br]
  have hm : mnI (y.f16.length : Int) 10 = (y.f16.length : Int) := by unfold mnI; split <;> omega
  rw [hm, Int.toNat_natCast, List.take_length]
  rw [decide_eq_true (show (0 : Int) ≤ (y.f16.length : Int) by omega), decide_eq_true (show (y.f16.length : Int) ≤ (y.f16.length : Int) by omega)]
  simp only [Bool.and_self, cond_true, room_small (show 248 ≤ 1000000 by omega) (show 0 + y.f16.length ≤ 1000 by omega), get_leaf]
  cases he : y.f16.isEmpty
  · rfl
  · rw [List.isEmpty_iff] at he
    simp only [cond_true]
    cases y; simp at he; simp [he]

def it : Nat → Int → Int
  | 0, n => n
  | j + 1, n => g38 (it j n)
theorem it_eq {n : Int} (h : B8 n) : ∀ j : Nat, it j n = if (j : Int) ≤ n then n - j else 0
  | 0 => by unfold B8 at h; unfold it; rw [if_pos (by omega)]; omega
  | j + 1 => by
    have e := it_eq h j
    unfold B8 at h
    unfold it
    rw [e]
    simp only [g38, g38T, gett_br, gett_leaf]
    by_cases a : (j : Int) ≤ n
    · rw [if_pos a]
      by_cases b : n = j
      · rw [if_neg (by omega), show (n - (j : Int) == 0) = true from beq_iff_eq.mpr (by omega)]; rfl
      · rw [if_pos (by omega), beq_eq_false_iff_ne.mpr (by omega), IntWalk.u8_in _ (by omega)]
        simp only [cond_false]; omega
    · rw [if_neg a, if_neg (by omega)]; rfl
theorem it_end {n : Int} (h : B8 n) : it 255 n = 0 := by
  rw [it_eq h]; unfold B8 at h
  split <;> omega

def tks : Nat → List S1 → List S1
  | 0, L => L
  | j + 1, L => (tks j L).mapIdx tk
theorem tks_len (L : List S1) : ∀ j, (tks j L).length = L.length
  | 0 => rfl
  | j + 1 => by simp [tks, tks_len L j]
def dn (j : Nat) (p : S1) : S1 := { p with f64 := it j p.f64, f65 := it j p.f65, f66 := it j p.f66, f67 := it j p.f67, f68 := it j p.f68, f69 := it j p.f69, f70 := it j p.f70, f71 := it j p.f71 }
theorem tks_at {L : List S1} {n : Nat} {p : S1} (h : L[n]? = some p) : ∀ j, (tks j L)[n]? = some (dn j p)
  | 0 => h
  | j + 1 => by
    unfold tks
    rw [List.getElem?_mapIdx, tks_at h j]; rfl
def zer (p : S1) : S1 := { p with f64 := 0, f65 := 0, f66 := 0, f67 := 0, f68 := 0, f69 := 0, f70 := 0, f71 := 0 }
theorem dn_end {p : S1} (h : Pok p) : dn 255 p = zer p := by
  obtain ⟨h1, h2, h3, h4, h5, h6, h7, h8⟩ := h
  unfold dn
  rw [it_end h1, it_end h2, it_end h3, it_end h4, it_end h5, it_end h6, it_end h7, it_end h8]
  rfl

theorem loop5a {v : W5_0} {z : S7} (hl : z.f16.length ≤ 1000) (h1 : v.a1 = 0)
    (hz : S7.mk v.a36 v.a37 v.a38 v.a39 v.a40 v.a41 v.a42 v.a43 v.a44 v.a45 v.a46 v.a47 v.a48 v.a49 v.a50 v.a51 v.a52 = z) :
    iter gR5_0 1000000 v = some (false, { v with a1 := 255, a52 := tks 255 z.f16 }) := by
  have h52 : v.a52 = z.f16 := congrArg S7.f16 hz
  have hx : ∀ M : List S1, (S7.mk v.a36 v.a37 v.a38 v.a39 v.a40 v.a41 v.a42 v.a43 v.a44 v.a45 v.a46 v.a47 v.a48 v.a49 v.a50 v.a51 M) = { z with f16 := M } := by
    intro M; rw [← hz]
  refine iter_all (fun j => { v with a1 := (j : Int), a52 := tks j z.f16 }) 255 (fun j hj => ?_) (o := (false, { v with a1 := 255, a52 := tks 255 z.f16 })) (n := 1000000) ?_ (by omega) ?_
  · have hll : ({ z with f16 := tks j z.f16 } : S7).f16.length ≤ 1000 := by rw [tks_len]; exact hl
    have ht : g15 { z with f16 := tks j z.f16 } = some { z with f16 := tks (j + 1) z.f16 } := tick_eq' hll
    simp only [gR5_0, get_br, hx, ht, decide_eq_true (show (j : Int) < 255 by omega), get_optS, cond_true, get_leaf, i64_nat (j := j) (by omega)]
    rw [← hz]
  · show (gR5_0 { v with a1 := 255, a52 := tks 255 z.f16 }).get? = _
    simp only [gR5_0, get_br, Int.lt_irrefl, decide_false, cond_false, get_leaf]
  · cases v; simp at h1 h52; simp [h1, h52, tks]

theorem loop5b {v : W5_2} {L T : List S1} (hT : T = tks 255 L) (hl : L.length ≤ 1000) (ho : ∀ p ∈ L, Pok p) (h2 : v.a2 = 0) (h24 : v.a24 = L) (h58 : v.a58 = T) :
    iter gR5_2 1000000 v = some (false, { v with a2 := (L.length : Int) }) := by
  refine iter_all (fun j => { v with a2 := (j : Int) }) L.length (fun j hj => ?_) (o := (false, { v with a2 := (L.length : Int) })) (n := 1000000) ?_ (by omega) ?_
  · have hp : L[j]? = some L[j] := List.getElem?_eq_getElem hj
    have hq := tks_at hp 255
    rw [← hT] at hq
    rw [dn_end (ho _ (List.getElem_mem hj))] at hq
    have hs : ∀ p : S1, ({ p with f64 := 0, f65 := 0, f66 := 0, f67 := 0, f68 := 0, f69 := 0, f70 := 0, f71 := 0 } : S1) = zer p := fun _ => rfl
    simp only [gR5_2, h24, h58, get_br, decide_eq_true (show (j : Int) < (L.length : Int) by omega), decide_eq_true (show (0 : Int) ≤ (j : Int) by omega), cond_true, Int.toNat_natCast, hp, hq, hs, get_optS, eqS1_self, Bool.not_true, cond_false, get_leaf, i64_nat (j := j) (by omega)]
  · simp only [gR5_2, h24, get_br, Int.lt_irrefl, decide_false, cond_false, get_leaf]
  · cases v; simp at h2; simp [h2]

def s77 (_ : Nat) (p : S1) : S1 := { p with f1 := 77 }
theorem loop5c {v : W5_4} {L : List S1} (hl : L.length ≤ 1000) (h3 : v.a3 = 0) (h109 : v.a109 = L) :
    iter gR5_4 1000000 v = some (false, { v with a3 := (L.length : Int), a109 := L.mapIdx s77 }) := by
  refine iter_all (fun j => { v with a3 := (j : Int), a109 := mapT s77 j L }) L.length (fun j hj => ?_) (o := (false, { v with a3 := (L.length : Int), a109 := L.mapIdx s77 })) (n := 1000000) ?_ (by omega) ?_
  · have hp : L[j]? = some L[j] := List.getElem?_eq_getElem hj
    have hs : ∀ p : S1, ({ p with f1 := 77 } : S1) = s77 j p := fun _ => rfl
    simp only [gR5_4, get_br, mapT_len, mapT_at _ hp, hs, decide_eq_true (show (j : Int) < (L.length : Int) by omega), decide_eq_true (show (0 : Int) ≤ (j : Int) by omega), cond_true, Bool.and_self, Int.toNat_natCast, get_optS, get_leaf, i64_nat (j := j) (by omega), mapT_step _ hp]
  · simp only [gR5_4, get_br, mapT_all, List.length_mapIdx, Int.lt_irrefl, decide_false, cond_false, get_leaf]
  · show ({ v with a3 := ((0 : Nat) : Int), a109 := mapT s77 0 L } : W5_4) = v
    rw [mapT_zero, ← h109, show ((0 : Nat) : Int) = v.a3 from h3.symm]

theorem law5 {x : S7} (ho : Tok x) : g5 x = some true := by
  obtain ⟨y, hy, hl⟩ := few_ok x
  have ho := few_tok hy ho
  have hl1 : y.f16.length ≤ 1000 := by omega
  have ey : ∀ w : S7, S7.mk w.f0 w.f1 w.f2 w.f3 w.f4 w.f5 w.f6 w.f7 w.f8 w.f9 w.f10 w.f11 w.f12 w.f13 w.f14 w.f15 w.f16 = w := fun _ => rfl
  obtain ⟨T, hT⟩ : ∃ T, T = tks 255 y.f16 := ⟨_, rfl⟩
  have hne : ((T.length : Int) != (y.f16.length : Int)) = false := by rw [hT, tks_len]; simp
  have h5a : ∀ v : W5_0, v.a1 = 0 → S7.mk v.a36 v.a37 v.a38 v.a39 v.a40 v.a41 v.a42 v.a43 v.a44 v.a45 v.a46 v.a47 v.a48 v.a49 v.a50 v.a51 v.a52 = y → iter gR5_0 1000000 v = some (false, { v with a1 := 255, a52 := T }) := by
    intro v h1 hz
    rw [hT]; exact loop5a hl1 h1 hz
  simp only [g5, g5T, hy, few_self hl, get_optS]
  rw [get_opt, h5a _ rfl ?hz]
  case hz => rfl
  simp only [Option.bind_some, get_br, cond_false, hne]
  rw [get_opt, loop5b (L := y.f16) hT hl1 ho rfl rfl rfl]
  simp only [Option.bind_some, get_br, cond_false, ey, copy_eq' hl1, get_optS]
  rw [get_opt, loop5c (L := y.f16) hl1 rfl rfl]
  simp only [Option.bind_some, get_br, cond_false, ey, same_self y hl1, get_optS, cond_true, awake_true, get_leaf]
end Ab09
