/- Whole numbers of a kind: remainders, bits, in plain arithmetic. -/
import Derived.Test.YtllohgmahflpaaaAbPure
import Derived.IntWalk
namespace Ab
open Go Go.IntWalk
set_option linter.unusedVariables false

theorem wr_u64 (n : Int) : IntKind.u64.wrap n = n % 18446744073709551616 := rfl
theorem wr_u32 (n : Int) : IntKind.u32.wrap n = n % 4294967296 := rfl
theorem wr_u16 (n : Int) : IntKind.u16.wrap n = n % 65536 := rfl
theorem wr_u8 (n : Int) : IntKind.u8.wrap n = n % 256 := rfl
theorem wr_i64 (n : Int) : IntKind.i64.wrap n = if n % 18446744073709551616 ≥ 9223372036854775808 then n % 18446744073709551616 - 18446744073709551616 else n % 18446744073709551616 := by
  show (if (true && decide (n % 18446744073709551616 ≥ 9223372036854775808)) = true then _ else _) = _
  simp only [Bool.true_and, decide_eq_true_eq]
  rfl

theorem wf_rg {k : IntKind} {n : Int} (h : (Lit.int k n).wf = true) : k.min ≤ n ∧ n ≤ k.max := by
  simp only [Lit.wf, Bool.and_eq_true, decide_eq_true_eq] at h
  exact h
theorem rg_u64 {n : Int} (h : (Lit.int .u64 n).wf = true) : 0 ≤ n ∧ n ≤ 18446744073709551615 := wf_rg h
theorem rg_u32 {n : Int} (h : (Lit.int .u32 n).wf = true) : 0 ≤ n ∧ n ≤ 4294967295 := wf_rg h
theorem rg_u16 {n : Int} (h : (Lit.int .u16 n).wf = true) : 0 ≤ n ∧ n ≤ 65535 := wf_rg h
theorem rg_u8 {n : Int} (h : (Lit.int .u8 n).wf = true) : 0 ≤ n ∧ n ≤ 255 := wf_rg h
theorem rg_i64 {n : Int} (h : (Lit.int .i64 n).wf = true) : -9223372036854775808 ≤ n ∧ n ≤ 9223372036854775807 := wf_rg h

theorem remI_eq {a : Int} (b : Int) (h : 0 ≤ a) : remI a b = a % b := Int.tmod_eq_emod_of_nonneg h

theorem quoI_u64 {a b : Int} (h : 0 ≤ a ∧ a ≤ 18446744073709551615) (hb : 1 ≤ b) : quoI .u64 a b = a / b := u64_quo a b ⟨h.1, h.2, hb⟩

theorem shrI_eq (k : IntKind) {a : Int} (s : Nat) (h : 0 ≤ a) (hs : s ≤ k.bits) : shrI k a (s : Int) = a / (2 ^ s : Int) := by
  unfold shrI
  rw [Int.toNat_natCast, Nat.min_eq_left hs, Int.fdiv_eq_ediv_of_nonneg]
  exact Int.le_of_lt (Int.pow_pos (by decide))

theorem ofInt_toNat {w : Nat} {a : Int} (h : 0 ≤ a) (hw : a < 2 ^ w) : (BitVec.ofInt w a).toNat = a.toNat := by
  rw [BitVec.toNat_ofInt]
  have : a % ((2 ^ w : Nat) : Int) = a := Int.emod_eq_of_lt h (by simpa using hw)
  rw [this]

theorem andI_mask {k : IntKind} (hk : k.signed = false) {a : Int} (s : Nat) (hs : s ≤ k.bits) (h : 0 ≤ a) (ha : a < 2 ^ k.bits) : andI k a ((2 ^ s - 1 : Nat) : Int) = a % (2 ^ s : Int) := by
  unfold andI
  have hp : (2 ^ s : Nat) ≤ 2 ^ k.bits := Nat.pow_le_pow_right (by decide) hs
  have hp0 : 0 < (2 ^ s : Nat) := Nat.pow_pos (by decide)
  rw [BitVec.toNat_and, ofInt_toNat h ha, ofInt_toNat (Int.natCast_nonneg _) (by
    have : ((2 ^ s - 1 : Nat) : Int) < ((2 ^ k.bits : Nat) : Int) := Int.ofNat_lt.mpr (by omega)
    simpa using this), Int.toNat_natCast, Nat.and_two_pow_sub_one_eq_mod]
  unfold IntKind.wrap
  rw [hk]
  simp only [Bool.false_and, Bool.false_eq_true, if_false]
  have h1 : ((a.toNat % 2 ^ s : Nat) : Int) = a % (2 ^ s : Int) := by
    rw [Int.natCast_emod, Int.toNat_of_nonneg h]; simp
  rw [h1]
  have h2 : 0 ≤ a % (2 ^ s : Int) := Int.emod_nonneg _ (by have : (0:Int) < 2 ^ s := Int.pow_pos (by decide); omega)
  have h3 : a % (2 ^ s : Int) < 2 ^ s := Int.emod_lt_of_pos _ (Int.pow_pos (by decide))
  have h4 : (2 ^ s : Int) ≤ 2 ^ k.bits := by exact_mod_cast hp
  exact Int.emod_eq_of_lt h2 (by omega)

theorem andI_u64_48 {a : Int} (h : 0 ≤ a ∧ a ≤ 18446744073709551615) : andI .u64 a 281474976710655 = a % 281474976710656 :=
  andI_mask (k := .u64) rfl 48 (by decide) h.1 (by show a < 18446744073709551616; omega)
theorem andI_u16_12 {a : Int} (h : 0 ≤ a ∧ a ≤ 65535) : andI .u16 a 4095 = a % 4096 :=
  andI_mask (k := .u16) rfl 12 (by decide) h.1 (by show a < 65536; omega)

/-- Bits above, bits below: 'or' is '+'. -/
theorem orI_u64_8 {c b : Int} (hc : 0 ≤ c ∧ c < 72057594037927936) (hb : 0 ≤ b ∧ b ≤ 255) : orI .u64 (256 * c) b = 256 * c + b := by
  unfold orI
  rw [BitVec.toNat_or, ofInt_toNat (w := IntKind.u64.bits) (by omega) (by show 256 * c < 18446744073709551616; omega), ofInt_toNat (w := IntKind.u64.bits) hb.1 (by show b < 18446744073709551616; omega)]
  have h1 : (256 * c).toNat = 2 ^ 8 * c.toNat := by omega
  rw [h1, ← Nat.two_pow_add_eq_or_of_lt (by omega)]
  rw [wr_u64]
  omega

theorem shlI_u64_8 {a : Int} (h : 0 ≤ a) : shlI .u64 a 8 = 256 * (a % 72057594037927936) := by
  show IntKind.u64.wrap (a * 2 ^ (min 8 64)) = _
  rw [wr_u64]
  show (a * 256) % _ = _
  omega
end Ab
