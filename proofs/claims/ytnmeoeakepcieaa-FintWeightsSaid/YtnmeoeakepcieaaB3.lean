/-
  Plain laws on floats: what a float is as a number; cutting it; the nearest float of a number.
-/
import Derived.Test.YtnmeoeakepcieaaB2
namespace Go.Hp
set_option linter.unusedVariables false
set_option linter.unusedSimpArgs false
open Go.RowKit

theorem dbl : FloatKind.f64.format = Ieee.double := rfl
theorem dbl_sign : Ieee.double.signWeight = 9223372036854775808 := by decide
theorem dbl_inf : Ieee.double.infRung = 9218868437227405312 := by decide
theorem dbl_bin : Ieee.double.binade = 4503599627370496 := by decide
theorem dbl_least : Ieee.double.leastPlace = -1074 := by decide

theorem decode_fin {b : Nat} (hb : b < 18446744073709551616) (h : ex b ≠ 2047) : FloatKind.f64.decode b = .number (decide (9223372036854775808 ≤ b)) (magR b) (expR b - 1075) := by
  have hx : b % 9223372036854775808 / 4503599627370496 = ex b := by unfold ex; omega
  have hf : b % 9223372036854775808 % 4503599627370496 = fr b := by unfold fr; omega
  have he : ex b < 2048 := by unfold ex; omega
  show Ieee.Format.read Ieee.double b = _
  unfold Ieee.Format.read
  simp only [dbl_sign, dbl_inf, dbl_bin, dbl_least]
  have hn : (b / 9223372036854775808 % 2 == 1) = decide (9223372036854775808 ≤ b) := by
    by_cases c : 9223372036854775808 ≤ b
    · simp only [c]; simp; omega
    · rw [decide_eq_false c]; simp only [beq_eq_false_iff_ne, ne_eq]; omega
  rw [hn]
  unfold magR expR
  by_cases c : ex b = 0
  · rw [if_pos (by omega), if_pos c, if_pos c, show b % 9223372036854775808 = fr b by omega]; rfl
  · rw [if_neg (by omega), if_pos (by omega), if_neg c, if_neg c, hf, hx, Nat.add_comm]
    congr 1; omega

theorem cut_zero (s : Bool) (n drop : Nat) : Ieee.Toward.zero.cut s n drop = n / 2 ^ drop := by
  unfold Ieee.Toward.cut
  simp only [Nat.shiftLeft_eq, Nat.one_mul, Bool.toNat_false, Nat.add_zero]
  by_cases h : drop ≤ n.log2 + 2
  · rw [Nat.min_eq_left h]
  · rw [Nat.min_eq_right (by omega)]
    have h1 : n < 2 ^ (n.log2 + 2) := Nat.lt_of_lt_of_le Nat.lt_log2_self (Nat.pow_le_pow_right (by decide) (by omega))
    have h2 : n < 2 ^ drop := Nat.lt_of_lt_of_le h1 (Nat.pow_le_pow_right (by decide) (by omega))
    rw [Nat.div_eq_of_lt h1, Nat.div_eq_of_lt h2]

theorem cut_exact (s : Bool) {n drop : Nat} (h0 : n ≠ 0) (h : n % 2 ^ drop = 0) : Ieee.Toward.even.cut s n drop = n / 2 ^ drop := by
  have h1 : 2 ^ drop ≤ n := Nat.le_of_dvd (Nat.pos_of_ne_zero h0) (Nat.dvd_of_mod_eq_zero h)
  have h2 : drop ≤ n.log2 := (Nat.le_log2 h0).2 h1
  have hp := Nat.two_pow_pos drop
  unfold Ieee.Toward.cut
  simp only [Nat.shiftLeft_eq, Nat.one_mul]
  rw [Nat.min_eq_left (by omega), h]
  have e1 : ((2 ^ drop == 2 * 0) : Bool) = false := by simp
  rw [e1]; simp

/-- The nearest float of a number that has one. -/
theorem nearest_exact (s : Bool) {c : Nat} (h0 : c ≠ 0) (hL : c.log2 ≤ 1023) (hd : c % 2 ^ (c.log2 - 52) = 0) :
    ∃ kept, kept = c * 2 ^ (52 - c.log2) / 2 ^ (c.log2 - 52) ∧ 4503599627370496 ≤ kept ∧ kept < 9007199254740992 ∧ Ieee.double.nearest s c 0 = sgn s + (c.log2 + 1022) * 4503599627370496 + kept := by
  refine ⟨_, rfl, ?_⟩
  have hlo := Nat.log2_self_le h0
  have hhi : c < 2 ^ (c.log2 + 1) := Nat.lt_log2_self
  have hk : 4503599627370496 ≤ c * 2 ^ (52 - c.log2) / 2 ^ (c.log2 - 52) ∧ c * 2 ^ (52 - c.log2) / 2 ^ (c.log2 - 52) < 9007199254740992 := by
    rw [show (4503599627370496 : Nat) = 2 ^ 52 by decide, show (9007199254740992 : Nat) = 2 ^ 53 by decide]
    rw [Nat.le_div_iff_mul_le (Nat.two_pow_pos _), Nat.div_lt_iff_lt_mul (Nat.two_pow_pos _), ← Nat.pow_add, ← Nat.pow_add]
    generalize c.log2 = L at *
    by_cases hl : L ≤ 52
    · rw [show 52 + (L - 52) = L + (52 - L) by omega, show 53 + (L - 52) = L + 1 + (52 - L) by omega, Nat.pow_add, Nat.pow_add 2 (L + 1)]
      exact ⟨Nat.mul_le_mul_right _ hlo, (Nat.mul_lt_mul_right (Nat.two_pow_pos _)).2 hhi⟩
    · rw [show 52 + (L - 52) = L by omega, show 53 + (L - 52) = L + 1 by omega, show 52 - L = 0 by omega, Nat.pow_zero, Nat.mul_one]
      exact ⟨hlo, hhi⟩
  refine ⟨hk.1, hk.2, ?_⟩
  have hne : c * 2 ^ (52 - c.log2) ≠ 0 := Nat.mul_ne_zero h0 (Nat.pos_iff_ne_zero.1 (Nat.two_pow_pos _))
  have hcut : Ieee.Toward.even.cut s (c * 2 ^ (52 - c.log2)) (c.log2 - 52) = c * 2 ^ (52 - c.log2) / 2 ^ (c.log2 - 52) := by
    refine cut_exact s hne ?_
    rw [Nat.mul_mod, hd, Nat.zero_mul, Nat.zero_mod]
  unfold Ieee.Format.nearest
  rw [if_neg h0]
  simp only [dbl_inf, dbl_bin, dbl_least, show Ieee.double.fractionBits = 52 from rfl]
  have e1 : max ((0 : Int) + (c.log2 : Nat) - (52 : Nat)) (-1074) = (c.log2 : Int) - 52 := by omega
  rw [e1, show ((0 : Int) - ((c.log2 : Int) - 52)).toNat = 52 - c.log2 by omega, show (((c.log2 : Int) - 52) - 0).toNat = c.log2 - 52 by omega, Nat.shiftLeft_eq, hcut,
    show ((c.log2 : Int) - 52 - -1074).toNat = c.log2 + 1022 by omega]
  generalize c * 2 ^ (52 - c.log2) / 2 ^ (c.log2 - 52) = kept at *
  rw [Nat.min_eq_left (by omega)]
  unfold Ieee.Format.word sgn
  rw [dbl_sign]
  cases s <;> simp; omega

theorem tz_dvd {m j : Nat} (h0 : m ≠ 0) : m % 2 ^ j = 0 ↔ j ≤ tz m := by
  obtain ⟨t1, t2⟩ := tz_spec m h0
  constructor
  · intro h
    obtain ⟨q, hq⟩ := Nat.dvd_of_mod_eq_zero h
    have hq0 : q ≠ 0 := by intro e; rw [e] at hq; omega
    obtain ⟨u1, u2⟩ := tz_spec q hq0
    have : m = q / 2 ^ tz q * 2 ^ (tz q + j) := by
      rw [Nat.pow_add, ← Nat.mul_assoc, ← u2, Nat.mul_comm]; exact hq
    have := (tz_mul (o := q / 2 ^ tz q) (k := tz q + j) u1).1
    rename_i hm
    rw [← hm] at this
    omega
  · intro h
    rw [t2, show tz m = (tz m - j) + j by omega, Nat.pow_add, ← Nat.mul_assoc]
    exact Nat.mul_mod_left _ _

theorem log2_of {c L : Nat} (h1 : 2 ^ L ≤ c) (h2 : c < 2 ^ (L + 1)) : c.log2 = L := by
  have h0 : c ≠ 0 := by have := Nat.two_pow_pos L; omega
  have a := (Nat.le_log2 h0).2 h1
  have b := (Nat.log2_lt h0).2 h2
  omega

/-- Is a normal float whole? -/
def wholeR (b : Nat) : Prop := 0 ≤ (ex b : Int) - 1075 + (tz (magR b) : Nat)
instance (b : Nat) : Decidable (wholeR b) := by unfold wholeR; exact inferInstance

theorem truncOK_fin {b : Nat} (hb : b < 18446744073709551616) (h : ex b ≠ 2047) : truncOK b := by
  unfold truncOK; rw [decode_fin hb h]; trivial

theorem sgn_neg (b : Nat) (hb : b < 18446744073709551616) : sgn (decide (9223372036854775808 ≤ b)) = if 9223372036854775808 ≤ b then 9223372036854775808 else 0 := by
  unfold sgn; by_cases c : 9223372036854775808 ≤ b <;> simp [c]

end Go.Hp
