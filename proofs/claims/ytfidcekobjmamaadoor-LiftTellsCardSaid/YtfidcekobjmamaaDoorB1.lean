/-
  Plain laws on the bits of a float, and on the last and the first bit of a number.
-/
import Derived.Test.YtfidcekobjmamaaDoorFw9
import Derived.Laws.BitsAllLaws
namespace Go.Hp
set_option linter.unusedVariables false
set_option linter.unusedSimpArgs false
open Go.RowKit

/-- How often two goes into a number. -/
def tz (n : Nat) : Nat := if h : n = 0 then 0 else if n % 2 = 1 then 0 else tz (n / 2) + 1
termination_by n
decreasing_by omega

theorem tz_odd {n : Nat} (h : n % 2 = 1) : tz n = 0 := by
  unfold tz; rw [dif_neg (by omega), if_pos h]
theorem tz_even {n : Nat} (h0 : n ≠ 0) (h : n % 2 = 0) : tz n = tz (n / 2) + 1 := by
  conv => lhs; unfold tz
  rw [dif_neg h0, if_neg (by omega)]

theorem and_compl : ∀ (v q : Nat), q < 2 ^ v → q &&& (2 ^ v - 1 - q) = 0
  | 0, q, h => by have : q = 0 := by simpa using h
                  subst this; rfl
  | v + 1, q, h => by
    have ih := and_compl v (q / 2) (by omega)
    have h1 : (q &&& (2 ^ (v + 1) - 1 - q)) / 2 = 0 := by
      rw [Nat.and_div_two, show (2 ^ (v + 1) - 1 - q) / 2 = 2 ^ v - 1 - q / 2 by omega]; exact ih
    have h2 : (q &&& (2 ^ (v + 1) - 1 - q)) % 2 = 0 := by
      have := Nat.and_mod_two_pow (a := q) (b := 2 ^ (v + 1) - 1 - q) (n := 1)
      rw [Nat.pow_one] at this
      rw [this]
      rcases Nat.mod_two_eq_zero_or_one q with e | e
      · rw [e]; simp
      · rw [show (2 ^ (v + 1) - 1 - q) % 2 = 0 by omega]; simp
    omega

theorem and_neg : ∀ (w a : Nat), a ≠ 0 → a < 2 ^ w → a &&& (2 ^ w - a) = 2 ^ tz a
  | 0, a, h0, h => by have : a = 0 := by simpa using h
                      exact absurd this h0
  | w + 1, a, h0, h => by
    have hP : 2 ^ (w + 1) = 2 * 2 ^ w := by rw [Nat.pow_succ]; omega
    have ih := and_neg w (a / 2)
    have hc := and_compl w (a / 2)
    rw [hP] at h ⊢
    generalize 2 ^ w = P at *
    have hm := Nat.and_mod_two_pow (a := a) (b := 2 * P - a) (n := 1)
    rw [Nat.pow_one] at hm
    have hd := Nat.and_div_two (a := a) (b := 2 * P - a)
    rcases Nat.mod_two_eq_zero_or_one a with e | e
    · have ih := ih (by omega) (by omega)
      rw [show (2 * P - a) / 2 = P - a / 2 by omega, ih] at hd
      rw [e, Nat.zero_and] at hm
      rw [tz_even h0 e, Nat.pow_succ]; omega
    · rw [show (2 * P - a) / 2 = P - 1 - a / 2 by omega, hc (by omega)] at hd
      rw [e, show (2 * P - a) % 2 = 1 by omega, show 1 &&& 1 = 1 by rfl] at hm
      rw [tz_odd e, Nat.pow_zero]; omega

theorem tz_lt : ∀ {w a : Nat}, a ≠ 0 → a < 2 ^ w → tz a < w
  | 0, a, h0, h => by have : a = 0 := by simpa using h
                      exact absurd this h0
  | w + 1, a, h0, h => by
    rcases Nat.mod_two_eq_zero_or_one a with e | e
    · have := tz_lt (w := w) (a := a / 2) (by omega) (by omega)
      rw [tz_even h0 e]; omega
    · rw [tz_odd e]; omega

/-- A number is an odd one, and so many twos. -/
theorem tz_spec (n : Nat) : n ≠ 0 → n / 2 ^ tz n % 2 = 1 ∧ n = n / 2 ^ tz n * 2 ^ tz n := by
  induction n using Nat.strongRecOn with
  | _ n ih =>
    intro h0
    rcases Nat.mod_two_eq_zero_or_one n with e | e
    · obtain ⟨h1, h2⟩ := ih (n / 2) (by omega) (by omega)
      rw [tz_even h0 e, Nat.pow_succ, Nat.mul_comm (2 ^ _) 2, ← Nat.div_div_eq_div_mul]
      refine ⟨h1, ?_⟩
      have : n = 2 * (n / 2) := by omega
      calc n = 2 * (n / 2) := this
        _ = 2 * (n / 2 / 2 ^ tz (n / 2) * 2 ^ tz (n / 2)) := by rw [← h2]
        _ = _ := by rw [Nat.mul_left_comm]
    · rw [tz_odd e]; simpa using e

/-- The only odd number, and power of two, that a number is. -/
theorem tz_mul {o k : Nat} (ho : o % 2 = 1) : tz (o * 2 ^ k) = k ∧ o * 2 ^ k / 2 ^ k = o := by
  refine ⟨?_, Nat.mul_div_cancel _ (Nat.two_pow_pos k)⟩
  induction k with
  | zero => rw [Nat.pow_zero, Nat.mul_one]; exact tz_odd ho
  | succ k ih =>
    have hp := Nat.two_pow_pos k
    have h1 : o * 2 ^ (k + 1) = 2 * (o * 2 ^ k) := by rw [Nat.pow_succ, ← Nat.mul_assoc, Nat.mul_comm]
    have h2 : 0 < o * 2 ^ k := Nat.mul_pos (by omega) hp
    rw [h1, tz_even (by omega) (by omega), show 2 * (o * 2 ^ k) / 2 = o * 2 ^ k by omega, ih]

def ex (b : Nat) : Nat := b / 4503599627370496 % 2048
def fr (b : Nat) : Nat := b % 4503599627370496
/-- What kind of float it is. -/
def kindI (b : Nat) : Int := if ex b = 2047 then (if fr b = 0 then 1 else 0) else if ex b = 0 then (if fr b = 0 then 2 else 3) else 4

theorem and_low (b : Nat) (h : b < 18446744073709551616) : bits .and .u64 (b : Int) 4503599627370495 = (fr b : Int) := by
  have := u64_and_nat b 4503599627370495 h (by decide)
  rw [show ((4503599627370495 : Nat) : Int) = 4503599627370495 by rfl] at this
  rw [this, show (4503599627370495 : Nat) = 2 ^ 52 - 1 by decide, Nat.and_two_pow_sub_one_eq_mod]; rfl
theorem and_2047 (b : Nat) (h : b < 18446744073709551616) : bits .and .u64 (b : Int) 2047 = ((b % 2048 : Nat) : Int) := by
  have := u64_and_nat b 2047 h (by decide)
  rw [show ((2047 : Nat) : Int) = 2047 by rfl] at this
  rw [this, show (2047 : Nat) = 2 ^ 11 - 1 by decide, Nat.and_two_pow_sub_one_eq_mod]
theorem andNot_top (b : Nat) (h : b < 18446744073709551616) : bits .andNot .u64 (b : Int) 9223372036854775808 = ((b % 9223372036854775808 : Nat) : Int) := by
  have := u64_andNot_nat b 9223372036854775808 h (by decide)
  rw [show ((9223372036854775808 : Nat) : Int) = 9223372036854775808 by rfl] at this
  rw [this, show (18446744073709551615 - 9223372036854775808 : Nat) = 2 ^ 63 - 1 by decide, Nat.and_two_pow_sub_one_eq_mod]
theorem or_top {m : Nat} (h : m < 4503599627370496) : bits .or .u64 (m : Int) 4503599627370496 = ((m + 4503599627370496 : Nat) : Int) := by
  have := u64_or_nat m 4503599627370496 (by omega) (by decide)
  rw [show ((4503599627370496 : Nat) : Int) = 4503599627370496 by rfl] at this
  rw [this]
  congr 1
  have := Nat.two_pow_add_eq_or_of_lt (i := 52) (b := m) (by omega) 1
  rw [show (2 ^ 52 * 1 : Nat) = 4503599627370496 by decide] at this
  rw [Nat.or_comm, ← this]; omega
theorem fdiv_nat (b k : Nat) : ((b : Nat) : Int).fdiv (2 ^ k) = ((b / 2 ^ k : Nat) : Int) := by
  rw [Int.fdiv_eq_ediv_of_nonneg _ (by exact Int.le_of_lt (Int.pow_pos (by decide)))]; simp

/-- A float is as great as itself, but if it is no number. -/
theorem order_self (b : Nat) : FloatKind.f64.format.order b b = if kindI b = 0 then none else some .eq := by
  have hx : b % 9223372036854775808 / 4503599627370496 = ex b := by unfold ex; omega
  have hf : b % 9223372036854775808 % 4503599627370496 = fr b := by unfold fr; omega
  have hb : ex b < 2048 := by unfold ex; omega
  have hfr : fr b < 4503599627370496 := by unfold fr; omega
  show (Ieee.Format.read Ieee.double b).order (Ieee.Format.read Ieee.double b) = _
  have hs : Ieee.double.signWeight = 9223372036854775808 := by decide
  have hi : Ieee.double.infRung = 9218868437227405312 := by decide
  have hbi : Ieee.double.binade = 4503599627370496 := by decide
  have key : ∀ (s : Bool) (m : Nat) (i : Int), (Ieee.Datum.number s m i).order (.number s m i) = some .eq := by
    intro s m i; simp [Ieee.Datum.order, compare, compareOfLessAndEq]
  have key2 : ∀ (s : Bool), (Ieee.Datum.infinity s).order (.infinity s) = some .eq := by
    intro s; cases s <;> rfl
  unfold Ieee.Format.read kindI
  simp only [hs, hi, hbi]
  generalize hm : b % 9223372036854775808 = m at *
  by_cases h1 : m < 4503599627370496
  · rw [if_pos h1, key, if_neg (by (repeat' split) <;> omega)]
  · rw [if_neg h1]
    by_cases h2 : m < 9218868437227405312
    · rw [if_pos h2, key, if_neg (by (repeat' split) <;> omega)]
    · rw [if_neg h2]
      by_cases h3 : m = 9218868437227405312
      · rw [if_pos h3, key2, if_neg (by (repeat' split) <;> omega)]
      · rw [if_neg h3, if_pos (by (repeat' split) <;> omega)]
        rfl

end Go.Hp
