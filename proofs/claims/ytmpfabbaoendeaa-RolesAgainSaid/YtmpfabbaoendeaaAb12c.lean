/- Seat 12: the plain laws, first part: vectors, addresses, the root. -/
import Derived.Test.YtmpfabbaoendeaaAb12b
import Derived.Test.YtmpfabbaoendeaaAbList
import Derived.Test.YtmpfabbaoendeaaAbArith
set_option maxRecDepth 100000
set_option maxHeartbeats 1000000
set_option linter.unusedVariables false
set_option linter.unusedSimpArgs false
namespace Ab12
open Go Ab

def U64 (n : Int) : Prop := 0 ≤ n ∧ n ≤ 18446744073709551615
def Vok (v : S4) : Prop := U64 v.f0 ∧ (0 ≤ v.f1 ∧ v.f1 ≤ 4294967295) ∧ U64 v.f2 ∧ (0 ≤ v.f3 ∧ v.f3 ≤ 65535)
def pri (p : S0) : S4 := S4.mk p.f36 p.f37 p.f38 p.f39
def Pok (p : S0) : Prop := (0 ≤ p.f0 ∧ p.f0 ≤ 65535) ∧ Vok (pri p)
def Tok (x : S5) : Prop := U64 x.f0 ∧ ∀ p ∈ x.f16, Pok p

def lt4 (v u : S4) : Bool := decide (v.f0 < u.f0 ∨ (v.f0 = u.f0 ∧ (v.f1 < u.f1 ∨ (v.f1 = u.f1 ∧ (v.f2 < u.f2 ∨ (v.f2 = u.f2 ∧ v.f3 < u.f3))))))
theorem g18_eq (v u : S4) : g18 v u = lt4 v u := by
  simp only [g18, g18T, gett_br, gett_leaf, bne, Bool.cond_eq_ite, Bool.not_eq_true', beq_eq_false_iff_ne, ne_eq, lt4]
  repeat' split
  all_goals (rw [decide_eq_decide]; omega)
theorem eqS4_iff {v u : S4} : eqS4 v u = true ↔ v = u := by
  cases v; cases u; simp [eqS4]
theorem g25_eq {v u : S4} (h : Vok v) (k : Vok u) : g25 v u = if lt4 v u = true then -1 else if eqS4 v u = true then 0 else 1 := by
  obtain ⟨_, h1, _, h3⟩ := h
  obtain ⟨_, k1, _, k3⟩ := k
  have e : (eqS4 v u = true) ↔ v.f0 = u.f0 ∧ v.f1 = u.f1 ∧ v.f2 = u.f2 ∧ v.f3 = u.f3 := by
    cases v; cases u; simp [eqS4]
  simp only [g25, g25T, gett_br, gett_leaf, IntWalk.u64_in v.f1 (by omega), IntWalk.u64_in u.f1 (by omega), IntWalk.u64_in v.f3 (by omega), IntWalk.u64_in u.f3 (by omega), Bool.cond_decide, lt4, decide_eq_true_eq, e]
  repeat' split
  all_goals omega
theorem g36_eq {v u : S4} (h : Vok v) (k : Vok u) : g36 v u = lt4 v u := by
  simp only [g36, g36T, gett_leaf, g25_eq h k]
  cases hl : lt4 v u
  · simp only [Bool.false_eq_true, if_false]; split <;> rfl
  · simp only [if_true]; rfl
theorem lt4_irr (v : S4) : lt4 v v = false := by simp [lt4]
theorem lt4_trans {a b c : S4} (h : lt4 a b = true) (k : lt4 b c = true) : lt4 a c = true := by
  simp only [lt4, decide_eq_true_eq] at *; omega
theorem lt4_not {a b c : S4} (h : lt4 a b = false) (k : lt4 c b = true) : lt4 a c = false := by
  simp only [lt4, decide_eq_true_eq, decide_eq_false_iff_not] at *; omega

theorem shr_u64 {n : Int} (h : U64 n) : g35 n = S7.mk (n / 1099511627776 % 256) (n / 4294967296 % 256) (n / 16777216 % 256) (n / 65536 % 256) (n / 256 % 256) (n % 256) := by
  simp only [g35, g35T, gett_leaf, wr_u8]
  rw [show shrI .u64 n 40 = n / 1099511627776 from shrI_eq .u64 40 h.1 (by decide), show shrI .u64 n 32 = n / 4294967296 from shrI_eq .u64 32 h.1 (by decide), show shrI .u64 n 24 = n / 16777216 from shrI_eq .u64 24 h.1 (by decide),
    show shrI .u64 n 16 = n / 65536 from shrI_eq .u64 16 h.1 (by decide), show shrI .u64 n 8 = n / 256 from shrI_eq .u64 8 h.1 (by decide), show shrI .u64 n 0 = n / 1 from shrI_eq .u64 0 h.1 (by decide), Int.ediv_one]

theorem addr_eq {x : S5} {b : Int} (h : U64 x.f0) (k : U64 b) : g23 x b = decide (b % 281474976710656 = x.f0 % 281474976710656) := by
  simp only [g23, g23T, gett_leaf, shr_u64 h, shr_u64 k, eqS7]
  rw [Bool.eq_iff_iff]
  simp only [Bool.and_eq_true, beq_iff_eq, decide_eq_true_eq]
  obtain ⟨h1, h2⟩ := h
  obtain ⟨k1, k2⟩ := k
  generalize x.f0 = a at *
  omega
theorem g31_eq {a b : Int} (h : U64 a) (k : U64 b) : g31 b a = decide (b % 281474976710656 = a % 281474976710656) := by
  simp only [g31, g31T, gett_leaf, remI_eq _ h.1, remI_eq _ k.1]
  rw [Bool.eq_iff_iff]; simp

/-- A port's candidate. -/
def same (a b : Int) : Bool := decide (b % 281474976710656 = a % 281474976710656)
def cand (id : Int) (p : S0) : Option S4 := if p.f29 = 3 ∧ same id p.f38 = false then some (g24 (pri p) p.f1) else none
theorem cand_ok {id : Int} {p : S0} {v : S4} (h : Pok p) (hc : cand id p = some v) : Vok v := by
  unfold cand at hc
  split at hc
  · simp only [Option.some.injEq] at hc; subst hc
    obtain ⟨h1, _, h3, h4⟩ := h.2
    exact ⟨h1, by
      show 0 ≤ IntKind.u32.wrap _ ∧ IntKind.u32.wrap _ ≤ 4294967295
      rw [wr_u32]; omega, h3, h4⟩
  · cases hc

/-- The best so far, and its place. -/
def idlt (L : List S0) (m : Int) (p : S0) : Bool := match L[m.toNat]? with
  | some q => decide (p.f0 < q.f0)
  | none => false
def rt1 (L : List S0) (id : Int) (j : Nat) (p : S0) (s : S4 × Int) : S4 × Int := match cand id p with
  | none => s
  | some v => bif lt4 v s.1 || (eqS4 v s.1 && (decide (0 ≤ s.2) && idlt L s.2 p)) then (v, (j : Int)) else s
def own (id : Int) : S4 := S4.mk id 0 id 0
def rt (L : List S0) (id : Int) : Nat → S4 × Int
  | 0 => (own id, -1)
  | j + 1 => match L[j]? with
    | none => rt L id j
    | some p => rt1 L id j p (rt L id j)

theorem own_ok {id : Int} (h : U64 id) : Vok (own id) := ⟨h, ⟨(show (0 : Int) ≤ 0 by decide), (show (0 : Int) ≤ 4294967295 by decide)⟩, h, ⟨(show (0 : Int) ≤ 0 by decide), (show (0 : Int) ≤ 65535 by decide)⟩⟩

structure Best (L : List S0) (id : Int) (j : Nat) (s : S4 × Int) : Prop where
  at_ : (s.2 = -1 ∧ s.1 = own id) ∨ ∃ (k : Nat) (q : S0), s.2 = (k : Int) ∧ k < j ∧ L[k]? = some q ∧ cand id q = some s.1 ∧ lt4 s.1 (own id) = true
  le : ∀ (i : Nat) q v, i < j → L[i]? = some q → cand id q = some v → lt4 v s.1 = false

theorem Best.more {L : List S0} {id : Int} {j : Nat} {s : S4 × Int} (b : Best L id j s) {p : S0} (hp : L[j]? = some p) (hc : ∀ v, cand id p = some v → lt4 v s.1 = false) : Best L id (j + 1) s := by
  refine ⟨?_, fun i q v hi hq hv => ?_⟩
  · rcases b.at_ with h | ⟨k, q, h1, h2, h3⟩
    · exact .inl h
    · exact .inr ⟨k, q, h1, by omega, h3⟩
  · by_cases hij : i = j
    · subst hij; rw [hp] at hq; simp at hq; subst hq; exact hc v hv
    · exact b.le i q v (by omega) hq hv

theorem rt_best {L : List S0} {id : Int} : ∀ {j : Nat}, j ≤ L.length → Best L id j (rt L id j)
  | 0, _ => ⟨.inl ⟨rfl, rfl⟩, fun i q v hi => by omega⟩
  | j + 1, hj => by
    have hp : L[j]? = some L[j] := List.getElem?_eq_getElem (by omega)
    have b := rt_best (L := L) (id := id) (j := j) (by omega)
    unfold rt
    rw [hp]
    simp only
    unfold rt1
    cases hc : cand id L[j] with
    | none => exact b.more hp (fun v h => by rw [hc] at h; cases h)
    | some v =>
      simp only
      cases hl : lt4 v (rt L id j).1 with
      | true =>
        simp only [Bool.true_or, cond_true]
        refine ⟨.inr ⟨j, L[j], rfl, by omega, hp, hc, ?_⟩, fun i q u hi hq hu => ?_⟩
        · rcases b.at_ with ⟨_, h⟩ | ⟨k, q, _, _, _, _, h⟩
          · rw [h] at hl; exact hl
          · exact lt4_trans hl h
        · by_cases hij : i = j
          · subst hij; rw [hp] at hq; simp only [Option.some.injEq] at hq; rw [← hq, hc] at hu; simp at hu; subst hu; exact lt4_irr v
          · exact lt4_not (b.le i q u (by omega) hq hu) hl
      | false =>
        simp only [Bool.false_or]
        cases he : (eqS4 v (rt L id j).1 && (decide (0 ≤ (rt L id j).2) && idlt L (rt L id j).2 L[j])) with
        | false =>
          simp only [cond_false]
          exact b.more hp (fun u h => by rw [hc] at h; simp at h; subst h; exact hl)
        | true =>
          simp only [cond_true]
          simp only [Bool.and_eq_true, decide_eq_true_eq] at he
          have hv := eqS4_iff.mp he.1
          refine ⟨.inr ⟨j, L[j], rfl, by omega, hp, hc, ?_⟩, fun i q u hi hq hu => ?_⟩
          · rcases b.at_ with ⟨h, _⟩ | ⟨k, q, _, _, _, _, h⟩
            · rw [h] at he; omega
            · rw [hv]; exact h
          · by_cases hij : i = j
            · subst hij; rw [hp] at hq; simp only [Option.some.injEq] at hq; rw [← hq, hc] at hu; simp at hu; subst hu; exact lt4_irr v
            · rw [hv]; exact b.le i q u (by omega) hq hu

theorem Best.ok {L : List S0} {id : Int} {j : Nat} {s : S4 × Int} (b : Best L id j s) (hid : U64 id) (hL : ∀ p ∈ L, Pok p) : Vok s.1 := by
  rcases b.at_ with ⟨_, h⟩ | ⟨k, q, _, _, h1, h2, _⟩
  · rw [h]; exact own_ok hid
  · exact cand_ok (hL q (List.mem_of_getElem? h1)) h2

theorem loop11 {L : List S0} {x : S5} (hx : x.f16 = L) (ho : Tok x) (hl : L.length ≤ 1000) : g11 x = some (rt L x.f0 L.length) := by
  obtain ⟨hid, hL⟩ := ho
  rw [hx] at hL
  have key : ∀ v : W11_0, v.a1 = -1 → v.a2 = L → v.a3 = (L.length : Int) → v.a4 = 0 → v.a5 = x.f0 → v.a21 = L → v.a23 = own x.f0 → iter gR11_0 1000000 v = some (false, { v with a1 := (rt L x.f0 L.length).2, a4 := (L.length : Int), a23 := (rt L x.f0 L.length).1 }) := by
    intro v h1 h2 h3 h4 h5 h21 h23
    refine iter_all (fun j => { v with a1 := (rt L x.f0 j).2, a4 := (j : Int), a23 := (rt L x.f0 j).1 }) L.length (fun j hj => ?_) (o := (false, { v with a1 := (rt L x.f0 L.length).2, a4 := (L.length : Int), a23 := (rt L x.f0 L.length).1 })) (n := 1000000) ?_ (by omega) ?_
    · have hp : L[j]? = some L[j] := List.getElem?_eq_getElem hj
      have b := rt_best (L := L) (id := x.f0) (j := j) (by omega)
      have hbo := b.ok hid hL
      have hpo := hL L[j] (List.getElem_mem hj)
      have e : rt L x.f0 (j + 1) = rt1 L x.f0 j L[j] (rt L x.f0 j) := by
        show (match L[j]? with | none => rt L x.f0 j | some p => rt1 L x.f0 j p (rt L x.f0 j)) = _
        rw [hp]
      rw [e]
      have hb2 : U64 L[j].f38 := hpo.2.2.2.1
      have ha : ∀ M : List S0, g23 (S5.mk v.a5 v.a6 v.a7 v.a8 v.a9 v.a10 v.a11 v.a12 v.a13 v.a14 v.a15 v.a16 v.a17 v.a18 v.a19 v.a20 M) L[j].f38 = same x.f0 L[j].f38 := by
        intro M
        rw [addr_eq (by show U64 v.a5; rw [h5]; exact hid) hb2]
        show decide (_ = v.a5 % _) = _
        rw [h5]; rfl
      simp only [gR11_0, get_br, h2, h3, h21, ha, decide_eq_true (show (j : Int) < (L.length : Int) by omega), decide_eq_true (show (0 : Int) ≤ (j : Int) by omega), cond_true, Int.toNat_natCast, hp, get_optS, get_leaf, i64_nat (j := j) (by omega), or_cond]
      unfold rt1
      by_cases c : L[j].f29 = 3 ∧ same x.f0 L[j].f38 = false
      · have hcd : cand x.f0 L[j] = some (g24 (pri L[j]) L[j].f1) := by unfold cand; rw [if_pos c]
        have hvo := cand_ok hpo hcd
        rw [hcd]
        simp only [c.1, c.2, bne_self_eq_false, Bool.or_self, cond_false]
        rw [show (S4.mk L[j].f36 L[j].f37 L[j].f38 L[j].f39) = pri L[j] from rfl, g25_eq hvo hbo]
        generalize g24 (pri L[j]) L[j].f1 = u at *
        cases hlt : lt4 u (rt L x.f0 j).1 with
        | true =>
          simp only [if_true, Bool.true_or, cond_true]
          rfl
        | false =>
          simp only [Bool.false_eq_true, if_false, Bool.false_or]
          cases heq : eqS4 u (rt L x.f0 j).1 with
          | false =>
            simp only [Bool.false_eq_true, if_false, Bool.false_and, cond_false]
            rfl
          | true =>
            simp only [if_true, Bool.true_and]
            have hu := eqS4_iff.mp heq
            by_cases hat : (rt L x.f0 j).2 < 0
            · rw [decide_eq_true hat, decide_eq_false (show ¬ 0 ≤ (rt L x.f0 j).2 by omega)]
              rfl
            · have hat0 : 0 ≤ (rt L x.f0 j).2 := by omega
              rw [decide_eq_false hat, decide_eq_true hat0]
              rcases b.at_ with ⟨h, _⟩ | ⟨k, q, h6, _, h7, _, _⟩
              · omega
              · have hi : idlt L (rt L x.f0 j).2 L[j] = decide (L[j].f0 < q.f0) := by
                  unfold idlt; rw [h6, Int.toNat_natCast, h7]
                rw [hi, h6, Int.toNat_natCast, h7]
                simp only [get_optS, get_br, get_leaf]
                by_cases hd : L[j].f0 < q.f0
                · rw [decide_eq_true hd, decide_eq_false (show ¬ L[j].f0 ≥ q.f0 by omega)]
                  rfl
                · rw [decide_eq_false hd, decide_eq_true (show L[j].f0 ≥ q.f0 by omega)]
                  simp only [Bool.true_and, cond_false, h6]
                  rfl
      · have hcd : cand x.f0 L[j] = none := by unfold cand; rw [if_neg c]
        rw [hcd]
        have : (L[j].f29 != 3 || same x.f0 L[j].f38) = true := by
          cases hs : same x.f0 L[j].f38
          · have : ¬ L[j].f29 = 3 := fun h => c ⟨h, hs⟩
            simp [bne_iff_ne.mpr this]
          · simp
        simp only [this, cond_true]
    · simp only [gR11_0, get_br, h3, Int.lt_irrefl, decide_false, cond_false, get_leaf]
    · cases v; simp at h1 h4 h23; simp [h1, h4, h23, rt]
  simp only [g11, g11T, hx, get_opt]
  rw [key _ rfl rfl rfl rfl rfl rfl rfl]
  rfl

theorem g19_eq {y : S5} {id : Int} {j : Nat} {p : S0} (h0 : y.f0 = id) (hid : U64 id) (hp : y.f16[j]? = some p) (hpo : Pok p) : g19 y (j : Int) = some (match cand id p with | none => (S4.mk 0 0 0 0, false) | some v => (v, true)) := by
  have hb2 : U64 p.f38 := hpo.2.2.2.1
  have e : g31 p.f38 y.f0 = same id p.f38 := by rw [h0, g31_eq hid hb2]; rfl
  simp only [g19, g19T, get_br, decide_eq_true (show (0 : Int) ≤ (j : Int) by omega), cond_true, Int.toNat_natCast, hp, get_optS, e, or_cond, get_leaf]
  by_cases c : p.f29 = 3 ∧ same id p.f38 = false
  · have hcd : cand id p = some (g24 (pri p) p.f1) := by unfold cand; rw [if_pos c]
    rw [hcd]
    simp only [c.1, c.2, bne_self_eq_false, Bool.or_self, cond_false]
    rfl
  · have hcd : cand id p = none := by unfold cand; rw [if_neg c]
    rw [hcd]
    have : (p.f29 != 3 || same id p.f38) = true := by
      cases hs : same id p.f38
      · have : ¬ p.f29 = 3 := fun h => c ⟨h, hs⟩
        simp [bne_iff_ne.mpr this]
      · simp
    simp only [this, cond_true]

theorem loop12 {L : List S0} {x : S5} (hx : x.f16 = L) (ho : Tok x) (hl : L.length ≤ 1000) : g12 x = some (rt L x.f0 L.length) := by
  obtain ⟨hid, hL⟩ := ho
  rw [hx] at hL
  have key : ∀ v : W12_0, v.a1 = -1 → v.a2 = 0 → v.a3 = x.f0 → v.a19 = L → v.a21 = own x.f0 → iter gR12_0 1000000 v = some (false, { v with a1 := (rt L x.f0 L.length).2, a2 := (L.length : Int), a21 := (rt L x.f0 L.length).1 }) := by
    intro v h1 h2 h3 h19 h21
    refine iter_all (fun j => { v with a1 := (rt L x.f0 j).2, a2 := (j : Int), a21 := (rt L x.f0 j).1 }) L.length (fun j hj => ?_) (o := (false, { v with a1 := (rt L x.f0 L.length).2, a2 := (L.length : Int), a21 := (rt L x.f0 L.length).1 })) (n := 1000000) ?_ (by omega) ?_
    · have hp : L[j]? = some L[j] := List.getElem?_eq_getElem hj
      have b := rt_best (L := L) (id := x.f0) (j := j) (by omega)
      have hpo := hL L[j] (List.getElem_mem hj)
      have e : rt L x.f0 (j + 1) = rt1 L x.f0 j L[j] (rt L x.f0 j) := by
        show (match L[j]? with | none => rt L x.f0 j | some p => rt1 L x.f0 j p (rt L x.f0 j)) = _
        rw [hp]
      rw [e]
      have hg : ∀ M : List S0, M = L → g19 (S5.mk v.a3 v.a4 v.a5 v.a6 v.a7 v.a8 v.a9 v.a10 v.a11 v.a12 v.a13 v.a14 v.a15 v.a16 v.a17 v.a18 M) (j : Int) = some (match cand x.f0 L[j] with | none => (S4.mk 0 0 0 0, false) | some v => (v, true)) := by
        intro M hM; exact g19_eq h3 hid (by show M[j]? = _; rw [hM]; exact hp) hpo
      simp only [gR12_0, get_br, h19, hg L rfl, decide_eq_true (show (j : Int) < (L.length : Int) by omega), decide_eq_true (show (0 : Int) ≤ (j : Int) by omega), cond_true, Int.toNat_natCast, hp, get_optS, get_leaf, i64_nat (j := j) (by omega), or_cond, and_cond, Bool.or_false, g18_eq]
      unfold rt1
      cases hcd : cand x.f0 L[j] with
      | none => simp only [Bool.not_false, cond_true]
      | some u =>
        simp only [Bool.not_true, cond_false]
        cases hlt : lt4 u (rt L x.f0 j).1 with
        | true => simp only [Bool.not_true, Bool.false_and, cond_false, Bool.true_or, cond_true]
        | false =>
          simp only [Bool.not_false, Bool.true_and, Bool.false_or]
          cases heq : eqS4 u (rt L x.f0 j).1 with
          | false => simp only [Bool.false_and, cond_false, cond_true]
          | true =>
            simp only [Bool.true_and]
            by_cases hat : (rt L x.f0 j).2 < 0
            · rw [decide_eq_false (show ¬ (rt L x.f0 j).2 ≥ 0 by omega)]
              simp only [Bool.false_and, cond_false, cond_true]
            · rw [decide_eq_true (show (rt L x.f0 j).2 ≥ 0 by omega)]
              rcases b.at_ with ⟨h, _⟩ | ⟨k, q, h6, _, h7, _, _⟩
              · omega
              · have hi : idlt L (rt L x.f0 j).2 L[j] = decide (L[j].f0 < q.f0) := by
                  unfold idlt; rw [h6, Int.toNat_natCast, h7]
                rw [hi, h6, Int.toNat_natCast, h7]
                simp only [cond_true, get_optS, get_br, get_leaf, Bool.false_or, Bool.true_and]
                cases decide (L[j].f0 < q.f0) <;> simp only [cond_true, cond_false, h6]
    · simp only [gR12_0, get_br, h19, Int.lt_irrefl, decide_false, cond_false, get_leaf]
    · cases v; simp at h1 h2 h21; simp [h1, h2, h21, rt]
  simp only [g12, g12T, hx, get_opt]
  rw [key _ rfl rfl rfl rfl rfl]
  rfl

end Ab12
