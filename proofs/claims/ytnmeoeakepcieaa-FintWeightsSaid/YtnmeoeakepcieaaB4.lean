/-
  Plain laws on floats: cutting a float leaves it as it is just if it is whole.
-/
import Derived.Test.YtnmeoeakepcieaaB3
namespace Go.Hp
set_option linter.unusedVariables false
set_option linter.unusedSimpArgs false
open Go.RowKit

theorem ord_eq (s : Bool) (m n : Nat) (i j : Int) : ((Ieee.Datum.number s m i).order (.number s n j) != some .eq) = decide (m * 2 ^ (i - min i j).toNat ≠ n * 2 ^ (j - min i j).toNat) := by
  simp only [Ieee.Datum.order, Ieee.signed, Nat.shiftLeft_eq]
  generalize m * 2 ^ (i - min i j).toNat = p
  generalize n * 2 ^ (j - min i j).toNat = q
  have key : ∀ x y : Int, (some (compare x y) != some Ordering.eq) = decide (x ≠ y) := by
    intro x y
    simp only [compare, compareOfLessAndEq]
    by_cases h1 : x < y
    · rw [if_pos h1, decide_eq_true (by omega)]; rfl
    · rw [if_neg h1]
      by_cases h2 : x = y
      · rw [if_pos h2, decide_eq_false (by omega)]; rfl
      · rw [if_neg h2, decide_eq_true h2]; rfl
  rw [key]
  cases s
  · exact decide_eq_decide.2 (by simp; omega)
  · exact decide_eq_decide.2 (by simp; omega)

theorem trunc_num {b : Nat} {s : Bool} {m : Nat} {i : Int} (hd : FloatKind.f64.decode b = .number s m i) : truncF b = Ieee.double.nearest s (m * 2 ^ i.toNat / 2 ^ (-i).toNat) 0 := by
  unfold truncF; rw [hd]
  show FloatKind.f64.encode (Ieee.Datum.integral .zero (.number _ _ _)) = _
  simp only [Ieee.Datum.integral]
  rw [cut_zero, Nat.shiftLeft_eq]
  rfl

theorem float_split {b : Nat} (hb : b < 18446744073709551616) (h0 : ex b ≠ 0) : b = sgn (decide (9223372036854775808 ≤ b)) + ex b * 4503599627370496 + fr b ∧ fr b < 4503599627370496 ∧ magR b = fr b + 4503599627370496 ∧ expR b = ex b := by
  refine ⟨?_, by unfold fr; omega, by unfold magR; rw [if_neg h0], by unfold expR; rw [if_neg h0]⟩
  rw [sgn_neg b hb]; unfold ex fr; split <;> omega

theorem trunc_big {b : Nat} (hb : b < 18446744073709551616) (h : ex b < 2047) (hi : 1075 ≤ ex b) : truncF b = b := by
  obtain ⟨hbs, hfr, hm, hx⟩ := float_split hb (by omega)
  have hd := decode_fin hb (by omega)
  rw [hx] at hd
  obtain ⟨j, hj⟩ : ∃ j : Nat, ex b = 1075 + j := ⟨ex b - 1075, by omega⟩
  rw [trunc_num hd, show (-((ex b : Int) - 1075)).toNat = 0 by omega, Nat.pow_zero, Nat.div_one, show ((ex b : Int) - 1075).toNat = j by omega]
  have hm0 : magR b ≠ 0 := by omega
  have hc0 : magR b * 2 ^ j ≠ 0 := Nat.mul_ne_zero hm0 (Nat.pos_iff_ne_zero.1 (Nat.two_pow_pos _))
  have hl : (magR b * 2 ^ j).log2 = 52 + j := by
    refine log2_of ?_ ?_
    · rw [Nat.pow_add]; exact Nat.mul_le_mul_right _ (by omega)
    · rw [show 52 + j + 1 = 53 + j by omega, Nat.pow_add]; exact (Nat.mul_lt_mul_right (Nat.two_pow_pos _)).2 (by omega)
  obtain ⟨kept, k1, k2, k3, k4⟩ := nearest_exact (decide (9223372036854775808 ≤ b)) hc0 (by omega) (by rw [hl, show 52 + j - 52 = j by omega]; exact Nat.mul_mod_left _ _)
  rw [hl, show 52 - (52 + j) = 0 by omega, Nat.pow_zero, Nat.mul_one, show 52 + j - 52 = j by omega, Nat.mul_div_cancel _ (Nat.two_pow_pos _)] at k1
  rw [k4, hl]
  generalize sgn (decide (9223372036854775808 ≤ b)) = S at *
  generalize magR b = M at *
  generalize fr b = f at *
  omega

/-- The nearest float of a small number, as a datum. -/
theorem near_small (s : Bool) {c : Nat} (h0 : c ≠ 0) (hL : c.log2 ≤ 52) : FloatKind.f64.decode (Ieee.double.nearest s c 0) = .number s (c * 2 ^ (52 - c.log2)) ((c.log2 : Int) - 52) := by
  obtain ⟨kept, k1, k2, k3, k4⟩ := nearest_exact s h0 (by omega) (by rw [show c.log2 - 52 = 0 by omega, Nat.pow_zero, Nat.mod_one])
  rw [show c.log2 - 52 = 0 by omega, Nat.pow_zero, Nat.div_one] at k1
  rw [k4, ← k1]
  clear k4 k1
  generalize c.log2 = L at *
  have hX := kind_norm (s := sgn s) (E := L + 1023) (f := kept - 4503599627370496) (sgn_or s) (by omega) (by omega)
  have hsg := sgn_or s
  have hss : s = decide (9223372036854775808 ≤ sgn s) := by cases s <;> rfl
  have hX0 : (9223372036854775808 ≤ sgn s + (L + 1023) * 4503599627370496 + (kept - 4503599627370496)) ↔ 9223372036854775808 ≤ sgn s := by omega
  rw [show sgn s + (L + 1022) * 4503599627370496 + kept = sgn s + (L + 1023) * 4503599627370496 + (kept - 4503599627370496) by omega]
  have hXl : sgn s + (L + 1023) * 4503599627370496 + (kept - 4503599627370496) < 18446744073709551616 := by omega
  generalize sgn s + (L + 1023) * 4503599627370496 + (kept - 4503599627370496) = X at *
  rw [decode_fin hXl (by omega)]
  have hXm : magR X = kept := by unfold magR; rw [if_neg (by omega), hX.2]; omega
  have hXe : expR X - 1075 = (L : Int) - 52 := by unfold expR; rw [if_neg (by omega), hX.1]; omega
  rw [hXm, hXe, decide_eq_decide.2 hX0, ← hss]

theorem trunc_whole {b : Nat} (hb : b < 18446744073709551616) (h : ex b < 2047) (h0 : ex b ≠ 0) : (FloatKind.f64.format.order (truncF b) b != some .eq) = decide (¬ wholeR b) := by
  by_cases hi : 1075 ≤ ex b
  · rw [trunc_big hb h hi, kind_nan, decide_eq_false (kind_ne (by omega)), decide_eq_false]
    unfold wholeR; omega
  · obtain ⟨hbs, hfr, hm, hx⟩ := float_split hb h0
    have hd := decode_fin hb (by omega)
    obtain ⟨j, hj, hj0⟩ : ∃ j : Nat, expR b - 1075 = -(j : Int) ∧ 0 < j := ⟨1075 - ex b, by omega, by omega⟩
    have hm0 : magR b ≠ 0 := by omega
    have hw : wholeR b ↔ magR b % 2 ^ j = 0 := by rw [tz_dvd hm0]; unfold wholeR; omega
    rw [hj] at hd
    have ht := trunc_num hd
    rw [show (-(j : Int)).toNat = 0 by omega, Nat.pow_zero, Nat.mul_one, show (- -(j : Int)).toNat = j by omega] at ht
    have hmb : magR b < 2 ^ 53 := by omega
    have hmb' : 2 ^ 52 ≤ magR b := by omega
    rw [ht]
    show ((FloatKind.f64.decode _).order (FloatKind.f64.decode b) != some .eq) = _
    rw [hd]
    clear ht hd hbs hx hj hfr
    have hdm := Nat.div_add_mod (magR b) (2 ^ j)
    generalize decide (9223372036854775808 ≤ b) = s
    generalize magR b = m at *
    rw [decide_eq_decide.2 (not_congr hw)]
    by_cases hc : m / 2 ^ j = 0
    · have e1 : FloatKind.f64.decode (Ieee.double.nearest s 0 0) = .number s 0 (-1074) := by cases s <;> rfl
      rw [hc, e1, ord_eq, Nat.zero_mul]
      have hpos : 0 < m * 2 ^ (-(j : Int) - min (-1074) (-(j : Int))).toNat := Nat.mul_pos (by omega) (Nat.two_pow_pos _)
      rw [hc, Nat.mul_zero, Nat.zero_add] at hdm
      rw [decide_eq_true (by omega), decide_eq_true (by omega)]
    · have hcl : m / 2 ^ j < 2 ^ 53 := Nat.lt_of_le_of_lt (Nat.div_le_self _ _) hmb
      have hL : (m / 2 ^ j).log2 ≤ 52 := by have := (Nat.log2_lt hc).2 hcl; omega
      have hL2 : 52 - j ≤ (m / 2 ^ j).log2 := (Nat.le_log2 hc).2 (by
        rw [Nat.le_div_iff_mul_le (Nat.two_pow_pos _), ← Nat.pow_add]
        by_cases hj52 : j ≤ 52
        · rw [show 52 - j + j = 52 by omega]; exact hmb'
        · exact absurd (Nat.div_eq_of_lt (Nat.lt_of_lt_of_le hmb (Nat.pow_le_pow_right (by decide) (by omega)))) hc)
      rw [near_small s hc hL, ord_eq]
      have hv : m / 2 ^ j * 2 ^ (52 - (m / 2 ^ j).log2) * 2 ^ (j - (52 - (m / 2 ^ j).log2)) = m / 2 ^ j * 2 ^ j := by
        rw [Nat.mul_assoc, ← Nat.pow_add, show 52 - (m / 2 ^ j).log2 + (j - (52 - (m / 2 ^ j).log2)) = j by omega]
      generalize hLg : (m / 2 ^ j).log2 = L at *
      rw [show min ((L : Int) - 52) (-(j : Int)) = -(j : Int) by omega, show (((L : Int) - 52) - -(j : Int)).toNat = j - (52 - L) by omega, show (-(j : Int) - -(j : Int)).toNat = 0 by omega, Nat.pow_zero, Nat.mul_one, hv, Nat.mul_comm]
      exact decide_eq_decide.2 (by omega)
end Go.Hp
