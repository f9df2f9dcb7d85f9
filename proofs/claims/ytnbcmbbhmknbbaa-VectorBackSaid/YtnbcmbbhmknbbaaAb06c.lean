/- Seat 06: the plain laws. -/
import Derived.Test.YtnbcmbbhmknbbaaAb06b
import Derived.Test.YtnbcmbbhmknbbaaAbArith
set_option maxRecDepth 100000
set_option maxHeartbeats 4000000
set_option linter.unusedVariables false
set_option linter.unusedSimpArgs false
namespace Ab06
open Go Ab

def Vok (a b c d : Int) : Prop := (0 ≤ a ∧ a ≤ 18446744073709551615) ∧ (0 ≤ b ∧ b ≤ 4294967295) ∧ (0 ≤ c ∧ c ≤ 18446744073709551615) ∧ (0 ≤ d ∧ d ≤ 65535)

theorem awake_true : g16 = true := by kernel_rfl

theorem g13_eq (x0 x1 x2 x3 x4 x5 x6 x7 : Int) : g13 x0 x1 x2 x3 x4 x5 x6 x7 = decide (x0 < x4 ∨ (x0 = x4 ∧ (x1 < x5 ∨ (x1 = x5 ∧ (x2 < x6 ∨ (x2 = x6 ∧ x3 < x7)))))) := by
  simp only [g13, g13T, Tr.get, bne, Bool.cond_eq_ite, Bool.not_eq_true', beq_eq_false_iff_ne, ne_eq]
  repeat' split
  all_goals (rw [decide_eq_decide]; omega)

theorem g10_eq {x0 x1 x2 x3 x4 x5 x6 x7 : Int} (h : Vok x0 x1 x2 x3) (k : Vok x4 x5 x6 x7) : g10 x0 x1 x2 x3 x4 x5 x6 x7 =
    if x0 < x4 then -1 else if x0 > x4 then 1 else if x1 < x5 then -1 else if x1 > x5 then 1 else if x2 < x6 then -1 else if x2 > x6 then 1 else if x3 < x7 then -1 else if x3 > x7 then 1 else 0 := by
  obtain ⟨_, h1, _, h3⟩ := h
  obtain ⟨_, k1, _, k3⟩ := k
  simp only [g10, g10T, Tr.get, IntWalk.u64_in x1 (by omega), IntWalk.u64_in x5 (by omega), IntWalk.u64_in x3 (by omega), IntWalk.u64_in x7 (by omega), Bool.cond_decide]

theorem g12_eq {x0 x1 x2 x3 x4 x5 x6 x7 : Int} (h : Vok x0 x1 x2 x3) (k : Vok x4 x5 x6 x7) : g12 x0 x1 x2 x3 x4 x5 x6 x7 = decide (x0 < x4 ∨ (x0 = x4 ∧ (x1 < x5 ∨ (x1 = x5 ∧ (x2 < x6 ∨ (x2 = x6 ∧ x3 < x7)))))) := by
  simp only [g12, g12T, Tr.get, g10_eq h k]
  rw [decide_eq_decide]
  repeat' split
  all_goals omega

theorem g11_eq {x0 x1 x2 x3 x4 x5 x6 x7 : Int} (h : Vok x0 x1 x2 x3) (k : Vok x4 x5 x6 x7) : g10 x0 x1 x2 x3 x4 x5 x6 x7 = g11 x0 x1 x2 x3 x4 x5 x6 x7 := by
  simp only [g11, g11T, Tr.get, g10_eq h k, g13_eq, Bool.cond_decide]
  repeat' split
  all_goals first | rfl | omega

theorem number_eq {x : Int} (h : 0 ≤ x ∧ x ≤ 65535) : g33 x = g34 x := by
  simp only [g33, g33T, g34, g34T, Tr.get]
  rw [andI_u16_12 h, remI_eq _ h.1]

theorem superior_eq {x0 x1 x2 x3 x4 x5 x6 x7 : Int} (h : Vok x0 x1 x2 x3) (k : Vok x4 x5 x6 x7) : g14 x0 x1 x2 x3 x4 x5 x6 x7 = g15 x0 x1 x2 x3 x4 x5 x6 x7 := by
  simp only [g14, g14T, g15, g15T, Tr.get, g35, g35T]
  rw [g12_eq h k, g13_eq, number_eq h.2.2.2, number_eq k.2.2.2, andI_u64_48 h.2.2.1, andI_u64_48 k.2.2.1, remI_eq _ h.2.2.1.1, remI_eq _ k.2.2.1.1]

theorem law3 {x0 x1 x2 x3 x4 x5 x6 x7 : Int} (h : Vok x0 x1 x2 x3) (k : Vok x4 x5 x6 x7) : g3 x0 x1 x2 x3 x4 x5 x6 x7 = true := by
  simp only [g3, g3T, Tr.get, awake_true]
  rw [g11_eq h k, g12_eq h k, g13_eq, superior_eq h k]
  simp

theorem law4 {x0 x1 x2 x3 x4 x5 x6 x7 x8 x9 x10 x11 : Int} (h : Vok x0 x1 x2 x3) (k : Vok x4 x5 x6 x7) (l : Vok x8 x9 x10 x11) : g4 x0 x1 x2 x3 x4 x5 x6 x7 x8 x9 x10 x11 = true := by
  simp only [g4, g4T, Tr.get, awake_true]
  rw [g12_eq h k, g12_eq k h, g12_eq k l, g12_eq h l, g10_eq h k, g10_eq k h]
  have hc : (bif (bif (bif decide (x0 < x4 ∨ (x0 = x4 ∧ (x1 < x5 ∨ (x1 = x5 ∧ (x2 < x6 ∨ (x2 = x6 ∧ x3 < x7)))))) then decide (x4 < x0 ∨ (x4 = x0 ∧ (x5 < x1 ∨ (x5 = x1 ∧ (x6 < x2 ∨ (x6 = x2 ∧ x7 < x3)))))) else false) then true else
      (!((bif decide (x0 < x4 ∨ (x0 = x4 ∧ (x1 < x5 ∨ (x1 = x5 ∧ (x2 < x6 ∨ (x2 = x6 ∧ x3 < x7)))))) then true else decide (x4 < x0 ∨ (x4 = x0 ∧ (x5 < x1 ∨ (x5 = x1 ∧ (x6 < x2 ∨ (x6 = x2 ∧ x7 < x3))))))) == (!((x0 == x4) && ((x1 == x5) && ((x2 == x6) && (x3 == x7)))))))) then true else
      ((if x0 < x4 then -1 else if x0 > x4 then 1 else if x1 < x5 then -1 else if x1 > x5 then 1 else if x2 < x6 then -1 else if x2 > x6 then 1 else if x3 < x7 then -1 else if x3 > x7 then 1 else 0 : Int) !=
        IntKind.i64.wrap (0 - (if x4 < x0 then -1 else if x4 > x0 then 1 else if x5 < x1 then -1 else if x5 > x1 then 1 else if x6 < x2 then -1 else if x6 > x2 then 1 else if x7 < x3 then -1 else if x7 > x3 then 1 else 0)))) = false := by
    rcases Int.lt_trichotomy x0 x4 with a | a | a
    · simp [a, show ¬ x4 < x0 by omega, show ¬ x4 = x0 by omega, show ¬ x0 = x4 by omega]; rfl
    · subst a
      rcases Int.lt_trichotomy x1 x5 with b | b | b
      · simp [b, show ¬ x5 < x1 by omega, show ¬ x5 = x1 by omega, show ¬ x1 = x5 by omega]; rfl
      · subst b
        rcases Int.lt_trichotomy x2 x6 with c | c | c
        · simp [c, show ¬ x6 < x2 by omega, show ¬ x6 = x2 by omega, show ¬ x2 = x6 by omega]; rfl
        · subst c
          rcases Int.lt_trichotomy x3 x7 with d | d | d
          · simp [d, show ¬ x7 < x3 by omega, show ¬ x7 = x3 by omega, show ¬ x3 = x7 by omega]; rfl
          · subst d
            simp; rfl
          · simp [d, show ¬ x3 < x7 by omega, show ¬ x7 = x3 by omega, show ¬ x3 = x7 by omega]; rfl
        · simp [c, show ¬ x2 < x6 by omega, show ¬ x6 = x2 by omega, show ¬ x2 = x6 by omega]; rfl
      · simp [b, show ¬ x1 < x5 by omega, show ¬ x5 = x1 by omega, show ¬ x1 = x5 by omega]; rfl
    · simp [a, show ¬ x0 < x4 by omega, show ¬ x4 = x0 by omega, show ¬ x0 = x4 by omega]; rfl
  rw [hc]
  simp only [cond_false]
  by_cases p : (x0 < x4 ∨ (x0 = x4 ∧ (x1 < x5 ∨ (x1 = x5 ∧ (x2 < x6 ∨ (x2 = x6 ∧ x3 < x7))))))
  · by_cases q : (x4 < x8 ∨ (x4 = x8 ∧ (x5 < x9 ∨ (x5 = x9 ∧ (x6 < x10 ∨ (x6 = x10 ∧ x7 < x11))))))
    · have r : (x0 < x8 ∨ (x0 = x8 ∧ (x1 < x9 ∨ (x1 = x9 ∧ (x2 < x10 ∨ (x2 = x10 ∧ x3 < x11)))))) := by omega
      rw [decide_eq_true p, decide_eq_true q, decide_eq_true r]; rfl
    · rw [decide_eq_true p, decide_eq_false q]; simp
  · rw [decide_eq_false p]; simp

theorem law5 {x0 x1 x2 x3 x4 x5 x6 x7 x8 : Int} (h : Vok x0 x1 x2 x3) (k : Vok x4 x5 x6 x7) (l : 0 ≤ x8 ∧ x8 ≤ 4294967295) : g5 x0 x1 x2 x3 x4 x5 x6 x7 x8 = true := by
  have e := wr_u32 (x1 + x8)
  have hv : ∀ c d, (0 ≤ c ∧ c ≤ 18446744073709551615) → (0 ≤ d ∧ d ≤ 65535) → Vok x0 (IntKind.u32.wrap (x1 + x8)) c d := fun c d hc hd => ⟨h.1, by omega, hc, hd⟩
  have hv' : ∀ c d, (0 ≤ c ∧ c ≤ 18446744073709551615) → (0 ≤ d ∧ d ≤ 65535) → Vok x0 x1 c d := fun c d hc hd => ⟨h.1, h.2.1, hc, hd⟩
  simp only [g5, g5T, g17, g17T, Tr.get, awake_true]
  rw [g12_eq (hv _ _ h.2.2.1 h.2.2.2) (hv _ _ k.2.2.1 k.2.2.2), g12_eq (hv' _ _ h.2.2.1 h.2.2.2) (hv' _ _ k.2.2.1 k.2.2.2)]
  simp

def B8 (n : Int) : Prop := 0 ≤ n ∧ n ≤ 255

theorem law7 {x0 x1 x2 x3 : Int} (h0 : B8 x0) (h1 : B8 x1) (h2 : B8 x2) (h3 : B8 x3) : g7 x0 x1 x2 x3 = true := by
  have e1 : g23 x0 x1 x2 x3 = g24 x0 x1 x2 x3 := by
    simp only [B8] at *
    simp only [g23, g23T, g24, g24T, g36, g36T, Tr.get]
    simp only [wr_u8, IntWalk.i64_in x1 (by omega), IntWalk.i64_in x2 (by omega), IntWalk.i64_in x3 (by omega), IntWalk.i64_in (x3 - 1) (by omega), IntWalk.i64_in (x2 + 1) (by omega), IntWalk.i64_in (2 * (x3 - 1)) (by omega), IntWalk.i64_in (2 * (x2 + 1)) (by omega)]
    simp only [Bool.cond_eq_ite, Bool.not_eq_true', decide_eq_true_eq]
    by_cases a : 6 ≤ x1 ∧ x1 ≤ 40 ∧ 1 ≤ x2 ∧ x2 ≤ 2 ∧ 4 ≤ x3 ∧ x3 ≤ 30
    · obtain ⟨a1, a2, a3, a4, a5, a6⟩ := a
      have e1 : (2 * ((x3 - 1) % 256)) % 256 = 2 * (x3 - 1) := by omega
      have e2 : (2 * ((x2 + 1) % 256)) % 256 = 2 * (x2 + 1) := by omega
      simp [e1, e2, a1, a2, a3, a4, a5, a6, show ¬ x1 < 6 by omega, show ¬ 40 < x1 by omega, show ¬ x2 < 1 by omega, show ¬ 2 < x2 by omega, show ¬ x3 < 4 by omega, show ¬ 30 < x3 by omega]
    · have : ¬ (6 ≤ x1) ∨ ¬ (x1 ≤ 40) ∨ ¬ (1 ≤ x2) ∨ ¬ (x2 ≤ 2) ∨ ¬ (4 ≤ x3) ∨ ¬ (x3 ≤ 30) := by omega
      rcases this with b | b | b | b | b | b <;> simp [b, Int.not_le.mp b] <;> simp_all
  have e2 : g25 x0 x1 x2 x3 = g26 x0 x1 x2 x3 := rfl
  simp only [g7, g7T, Tr.get, awake_true]
  rw [e1, e2]
  simp


def U64 (n : Int) : Prop := 0 ≤ n ∧ n ≤ 18446744073709551615
def U16 (n : Int) : Prop := 0 ≤ n ∧ n ≤ 65535

theorem priority_eq {x : Int} (h : U64 x) : g27 x = x / 281474976710656 ∧ g28 x = x / 281474976710656 := by
  have h := h
  unfold U64 at h
  simp only [g27, g27T, g28, g28T, Tr.get]
  rw [quoI_u64 h (by decide), show shrI .u64 x 48 = x / 281474976710656 from shrI_eq .u64 48 h.1 (by decide)]
  exact ⟨IntWalk.u16_in _ (by omega), IntWalk.u16_in _ (by omega)⟩

theorem address_eq {x : Int} (h : U64 x) : g29 x = (x / 1099511627776 % 256, x / 4294967296 % 256, x / 16777216 % 256, x / 65536 % 256, x / 256 % 256, x % 256) := by
  have h := h
  unfold U64 at h
  simp only [g29, g29T, Tr.get, wr_u8]
  rw [show shrI .u64 x 40 = x / 1099511627776 from shrI_eq .u64 40 h.1 (by decide), show shrI .u64 x 32 = x / 4294967296 from shrI_eq .u64 32 h.1 (by decide), show shrI .u64 x 24 = x / 16777216 from shrI_eq .u64 24 h.1 (by decide),
    show shrI .u64 x 16 = x / 65536 from shrI_eq .u64 16 h.1 (by decide), show shrI .u64 x 8 = x / 256 from shrI_eq .u64 8 h.1 (by decide), show shrI .u64 x 0 = x / 1 from shrI_eq .u64 0 h.1 (by decide), Int.ediv_one]

theorem address_ref {x : Int} (h : U64 x) : g30 x = g29 x := by
  rw [address_eq h]
  have h := h
  unfold U64 at h
  simp only [g30, g30T, Tr.get, wr_u8]
  rw [quoI_u64 (a := x) h (by decide)]
  rw [quoI_u64 (a := x / 256) (by omega) (by decide)]
  rw [quoI_u64 (a := x / 256 / 256) (by omega) (by decide)]
  rw [quoI_u64 (a := x / 256 / 256 / 256) (by omega) (by decide)]
  rw [quoI_u64 (a := x / 256 / 256 / 256 / 256) (by omega) (by decide)]
  rw [remI_eq _ (a := x / 256 / 256 / 256 / 256 / 256) (by omega), remI_eq _ (a := x / 256 / 256 / 256 / 256) (by omega), remI_eq _ (a := x / 256 / 256 / 256) (by omega), remI_eq _ (a := x / 256 / 256) (by omega), remI_eq _ (a := x / 256) (by omega), remI_eq _ (a := x) (by omega)]
  simp only [Prod.mk.injEq]
  refine ⟨?_, ?_, ?_, ?_, ?_, ?_⟩ <;> omega

def num (p a b c d e f : Int) : Int := 256 * (256 * (256 * (256 * (256 * (256 * p + a) + b) + c) + d) + e) + f

theorem id_eq {p a b c d e f : Int} (hp : U16 p) (ha : B8 a) (hb : B8 b) (hc : B8 c) (hd : B8 d) (he : B8 e) (hf : B8 f) : g31 p a b c d e f = num p a b c d e f := by
  unfold U16 at hp
  unfold B8 at *
  simp only [g31, g31T, Tr.get]
  rw [IntWalk.u64_in p (by omega), IntWalk.u64_in a (by omega), IntWalk.u64_in b (by omega), IntWalk.u64_in c (by omega), IntWalk.u64_in d (by omega), IntWalk.u64_in e (by omega), IntWalk.u64_in f (by omega)]
  have step : ∀ n m : Int, 0 ≤ n → n < 72057594037927936 → 0 ≤ m ∧ m ≤ 255 → orI .u64 (shlI .u64 n 8) m = 256 * n + m := fun n m h1 h2 h3 => by
    rw [shlI_u64_8 h1, show n % 72057594037927936 = n by omega]
    exact orI_u64_8 ⟨h1, h2⟩ h3
  rw [step p a (by omega) (by omega) ha]
  rw [step (256 * p + a) b (by omega) (by omega) hb]
  rw [step (256 * (256 * p + a) + b) c (by omega) (by omega) hc]
  rw [step (256 * (256 * (256 * p + a) + b) + c) d (by omega) (by omega) hd]
  rw [step (256 * (256 * (256 * (256 * p + a) + b) + c) + d) e (by omega) (by omega) he]
  rw [step (256 * (256 * (256 * (256 * (256 * p + a) + b) + c) + d) + e) f (by omega) (by omega) hf]
  rfl

theorem id_ref {p a b c d e f : Int} (hp : U16 p) (ha : B8 a) (hb : B8 b) (hc : B8 c) (hd : B8 d) (he : B8 e) (hf : B8 f) : g32 p a b c d e f = num p a b c d e f := by
  unfold U16 at hp
  unfold B8 at *
  simp only [g32, g32T, Tr.get]
  rw [IntWalk.u64_in p (by omega), IntWalk.u64_in a (by omega), IntWalk.u64_in b (by omega), IntWalk.u64_in c (by omega), IntWalk.u64_in d (by omega), IntWalk.u64_in e (by omega), IntWalk.u64_in f (by omega)]
  have step : ∀ n m : Int, 0 ≤ n → n < 72057594037927936 → 0 ≤ m ∧ m ≤ 255 → IntKind.u64.wrap (IntKind.u64.wrap (n * 256) + m) = 256 * n + m := fun n m h1 h2 h3 => by
    rw [IntWalk.u64_in (n * 256) (by omega), IntWalk.u64_in _ (by omega)]; omega
  rw [step p a (by omega) (by omega) ha]
  rw [step (256 * p + a) b (by omega) (by omega) hb]
  rw [step (256 * (256 * p + a) + b) c (by omega) (by omega) hc]
  rw [step (256 * (256 * (256 * p + a) + b) + c) d (by omega) (by omega) hd]
  rw [step (256 * (256 * (256 * (256 * p + a) + b) + c) + d) e (by omega) (by omega) he]
  rw [step (256 * (256 * (256 * (256 * (256 * p + a) + b) + c) + d) + e) f (by omega) (by omega) hf]
  rfl

theorem law8 {x0 x1 x2 x3 x4 x5 x6 x7 x8 : Int} (h0 : U64 x0) (h1 : U16 x1) (h2 : B8 x2) (h3 : B8 x3) (h4 : B8 x4) (h5 : B8 x5) (h6 : B8 x6) (h7 : B8 x7) (h8 : U16 x8) : g8 x0 x1 x2 x3 x4 x5 x6 x7 x8 = true := by
  simp only [g8, g8T, Tr.get, awake_true]
  rw [(priority_eq h0).1, (priority_eq h0).2, address_ref h0, id_eq h1 h2 h3 h4 h5 h6 h7, id_ref h1 h2 h3 h4 h5 h6 h7, number_eq h8]
  simp

theorem law9 {x0 x1 x2 x3 x4 x5 x6 x7 : Int} (h0 : U64 x0) (h1 : U16 x1) (h2 : B8 x2) (h3 : B8 x3) (h4 : B8 x4) (h5 : B8 x5) (h6 : B8 x6) (h7 : B8 x7) : g9 x0 x1 x2 x3 x4 x5 x6 x7 = true := by
  have hu : U64 (num x1 x2 x3 x4 x5 x6 x7) := by
    unfold U64 num; unfold U16 at h1; unfold B8 at *; omega
  simp only [g9, g9T, Tr.get, awake_true]
  rw [id_eq h1 h2 h3 h4 h5 h6 h7, (priority_eq h0).1, (priority_eq hu).1, address_eq h0, address_eq hu]
  simp only
  have hx := h0
  unfold U64 at hx
  rw [id_eq (p := x0 / 281474976710656) (by unfold U16; omega) (by unfold B8; omega) (by unfold B8; omega) (by unfold B8; omega) (by unfold B8; omega) (by unfold B8; omega) (by unfold B8; omega)]
  unfold U16 at h1
  unfold B8 at *
  have e0 : num (x0 / 281474976710656) (x0 / 1099511627776 % 256) (x0 / 4294967296 % 256) (x0 / 16777216 % 256) (x0 / 65536 % 256) (x0 / 256 % 256) (x0 % 256) = x0 := by
    unfold num; omega
  have e1 : num x1 x2 x3 x4 x5 x6 x7 / 281474976710656 = x1 := by unfold num; omega
  have e2 : num x1 x2 x3 x4 x5 x6 x7 / 1099511627776 % 256 = x2 := by unfold num; omega
  have e3 : num x1 x2 x3 x4 x5 x6 x7 / 4294967296 % 256 = x3 := by unfold num; omega
  have e4 : num x1 x2 x3 x4 x5 x6 x7 / 16777216 % 256 = x4 := by unfold num; omega
  have e5 : num x1 x2 x3 x4 x5 x6 x7 / 65536 % 256 = x5 := by unfold num; omega
  have e6 : num x1 x2 x3 x4 x5 x6 x7 / 256 % 256 = x6 := by unfold num; omega
  have e7 : num x1 x2 x3 x4 x5 x6 x7 % 256 = x7 := by unfold num; omega
  rw [e0, e1, e2, e3, e4, e5, e6, e7]
  simp

end Ab06
