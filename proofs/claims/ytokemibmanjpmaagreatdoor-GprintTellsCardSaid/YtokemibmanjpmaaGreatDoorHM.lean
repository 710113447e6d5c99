/-
  Texts of this claim, put together.
-/
import Derived.Test.YtokemibmanjpmaaGreatDoorFw9
import Derived.Laws.BitsAllLaws
import Derived.Test.YtokemibmanjpmaaGreatDoorG5
namespace Go.Hp
set_option linter.unusedVariables false
set_option linter.unusedSimpArgs false
open Go.RowKit

/-- How often two goes into a number. -/
def tz (n : Nat) : Nat := if h : n = 0 then 0 else if n % 2 = 1 then 0 else tz (n / 2) + 1
termination_by n
decreasing_by omega

theorem tz_odd {n : Nat} (h : n % 2 = 1) : tz n = 0 := by
  unfold tz; rw [dif_neg (by omega), if_pos h]
theorem tz_even {n : Nat} (hz : n ≠ 0) (h : n % 2 = 0) : tz n = tz (n / 2) + 1 := by
  conv => lhs; unfold tz
  rw [dif_neg hz, if_neg (by omega)]

theorem and_compl : ∀ (v q : Nat), q < 2 ^ v → q &&& (2 ^ v - 1 - q) = 0
  | 0, q, h => by have : q = 0 := by simpa using h
                  subst this; rfl
  | v + 1, q, h => by
    have ih := and_compl v (q / 2) (by omega)
    have h1 : (q &&& (2 ^ (v + 1) - 1 - q)) / 2 = 0 := by
      rw [Nat.and_div_two, show (2 ^ (v + 1) - 1 - q) / 2 = 2 ^ v - 1 - q / 2 by omega]; exact ih
    have h2 : (q &&& (2 ^ (v + 1) - 1 - q)) % 2 = 0 := by
      have := Nat.and_mod_two_pow (a := q) (b := 2 ^ (v + 1) - 1 - q) (n := 1)
      rw [Nat.pow_one] at this
      rw [this]
      rcases Nat.mod_two_eq_zero_or_one q with e | e
      · rw [e]; simp
      · rw [show (2 ^ (v + 1) - 1 - q) % 2 = 0 by omega]; simp
    omega

theorem and_neg : ∀ (w a : Nat), a ≠ 0 → a < 2 ^ w → a &&& (2 ^ w - a) = 2 ^ tz a
  | 0, a, hz, h => by have : a = 0 := by simpa using h
                      exact absurd this hz
  | w + 1, a, hz, h => by
    have hP : 2 ^ (w + 1) = 2 * 2 ^ w := by rw [Nat.pow_succ]; omega
    have ih := and_neg w (a / 2)
    have hc := and_compl w (a / 2)
    rw [hP] at h ⊢
    generalize 2 ^ w = P at *
    have hm := Nat.and_mod_two_pow (a := a) (b := 2 * P - a) (n := 1)
    rw [Nat.pow_one] at hm
    have hd := Nat.and_div_two (a := a) (b := 2 * P - a)
    rcases Nat.mod_two_eq_zero_or_one a with e | e
    · have ih := ih (by omega) (by omega)
      rw [show (2 * P - a) / 2 = P - a / 2 by omega, ih] at hd
      rw [e, Nat.zero_and] at hm
      rw [tz_even hz e, Nat.pow_succ]; omega
    · rw [show (2 * P - a) / 2 = P - 1 - a / 2 by omega, hc (by omega)] at hd
      rw [e, show (2 * P - a) % 2 = 1 by omega, show 1 &&& 1 = 1 by rfl] at hm
      rw [tz_odd e, Nat.pow_zero]; omega

theorem tz_lt : ∀ {w a : Nat}, a ≠ 0 → a < 2 ^ w → tz a < w
  | 0, a, hz, h => by have : a = 0 := by simpa using h
                      exact absurd this hz
  | w + 1, a, hz, h => by
    rcases Nat.mod_two_eq_zero_or_one a with e | e
    · have := tz_lt (w := w) (a := a / 2) (by omega) (by omega)
      rw [tz_even hz e]; omega
    · rw [tz_odd e]; omega

/-- A number is an odd one, and so many twos. -/
theorem tz_spec (n : Nat) : n ≠ 0 → n / 2 ^ tz n % 2 = 1 ∧ n = n / 2 ^ tz n * 2 ^ tz n := by
  induction n using Nat.strongRecOn with
  | _ n ih =>
    intro hz
    rcases Nat.mod_two_eq_zero_or_one n with e | e
    · obtain ⟨h1, h2⟩ := ih (n / 2) (by omega) (by omega)
      rw [tz_even hz e, Nat.pow_succ, Nat.mul_comm (2 ^ _) 2, ← Nat.div_div_eq_div_mul]
      refine ⟨h1, ?_⟩
      have : n = 2 * (n / 2) := by omega
      calc n = 2 * (n / 2) := this
        _ = 2 * (n / 2 / 2 ^ tz (n / 2) * 2 ^ tz (n / 2)) := by rw [← h2]
        _ = _ := by rw [Nat.mul_left_comm]
    · rw [tz_odd e]; simpa using e

/-- The only odd number, and power of two, that a number is. -/
theorem tz_mul {o k : Nat} (ho : o % 2 = 1) : tz (o * 2 ^ k) = k ∧ o * 2 ^ k / 2 ^ k = o := by
  refine ⟨?_, Nat.mul_div_cancel _ (Nat.two_pow_pos k)⟩
  induction k with
  | zero => rw [Nat.pow_zero, Nat.mul_one]; exact tz_odd ho
  | succ k ih =>
    have hp := Nat.two_pow_pos k
    have h1 : o * 2 ^ (k + 1) = 2 * (o * 2 ^ k) := by rw [Nat.pow_succ, ← Nat.mul_assoc, Nat.mul_comm]
    have h2 : 0 < o * 2 ^ k := Nat.mul_pos (by omega) hp
    rw [h1, tz_even (by omega) (by omega), show 2 * (o * 2 ^ k) / 2 = o * 2 ^ k by omega, ih]

def ex (b : Nat) : Nat := b / 4503599627370496 % 2048
def fr (b : Nat) : Nat := b % 4503599627370496
/-- What kind of float it is. -/
def kindI (b : Nat) : Int := if ex b = 2047 then (if fr b = 0 then 1 else 0) else if ex b = 0 then (if fr b = 0 then 2 else 3) else 4

theorem and_low (b : Nat) (h : b < 18446744073709551616) : bits .and .u64 (b : Int) 4503599627370495 = (fr b : Int) := by
  have := u64_and_nat b 4503599627370495 h (by decide)
  rw [show ((4503599627370495 : Nat) : Int) = 4503599627370495 by rfl] at this
  rw [this, show (4503599627370495 : Nat) = 2 ^ 52 - 1 by decide, Nat.and_two_pow_sub_one_eq_mod]; rfl
theorem and_2047 (b : Nat) (h : b < 18446744073709551616) : bits .and .u64 (b : Int) 2047 = ((b % 2048 : Nat) : Int) := by
  have := u64_and_nat b 2047 h (by decide)
  rw [show ((2047 : Nat) : Int) = 2047 by rfl] at this
  rw [this, show (2047 : Nat) = 2 ^ 11 - 1 by decide, Nat.and_two_pow_sub_one_eq_mod]
theorem andNot_top (b : Nat) (h : b < 18446744073709551616) : bits .andNot .u64 (b : Int) 9223372036854775808 = ((b % 9223372036854775808 : Nat) : Int) := by
  have := u64_andNot_nat b 9223372036854775808 h (by decide)
  rw [show ((9223372036854775808 : Nat) : Int) = 9223372036854775808 by rfl] at this
  rw [this, show (18446744073709551615 - 9223372036854775808 : Nat) = 2 ^ 63 - 1 by decide, Nat.and_two_pow_sub_one_eq_mod]
theorem or_top {m : Nat} (h : m < 4503599627370496) : bits .or .u64 (m : Int) 4503599627370496 = ((m + 4503599627370496 : Nat) : Int) := by
  have := u64_or_nat m 4503599627370496 (by omega) (by decide)
  rw [show ((4503599627370496 : Nat) : Int) = 4503599627370496 by rfl] at this
  rw [this]
  congr 1
  have := Nat.two_pow_add_eq_or_of_lt (i := 52) (b := m) (by omega) 1
  rw [show (2 ^ 52 * 1 : Nat) = 4503599627370496 by decide] at this
  rw [Nat.or_comm, ← this]; omega
theorem fdiv_nat (b k : Nat) : ((b : Nat) : Int).fdiv (2 ^ k) = ((b / 2 ^ k : Nat) : Int) := by
  rw [Int.fdiv_eq_ediv_of_nonneg _ (by exact Int.le_of_lt (Int.pow_pos (by decide)))]; simp

/-- A float is as great as itself, but if it is no number. -/
theorem order_self (b : Nat) : FloatKind.f64.format.order b b = if kindI b = 0 then none else some .eq := by
  have hx : b % 9223372036854775808 / 4503599627370496 = ex b := by unfold ex; omega
  have hf : b % 9223372036854775808 % 4503599627370496 = fr b := by unfold fr; omega
  have hb : ex b < 2048 := by unfold ex; omega
  have hfr : fr b < 4503599627370496 := by unfold fr; omega
  show (Ieee.Format.read Ieee.double b).order (Ieee.Format.read Ieee.double b) = _
  have hs : Ieee.double.signWeight = 9223372036854775808 := by decide
  have hi : Ieee.double.infRung = 9218868437227405312 := by decide
  have hbi : Ieee.double.binade = 4503599627370496 := by decide
  have key : ∀ (s : Bool) (m : Nat) (i : Int), (Ieee.Datum.number s m i).order (.number s m i) = some .eq := by
    intro s m i; simp [Ieee.Datum.order, compare, compareOfLessAndEq]
  have key2 : ∀ (s : Bool), (Ieee.Datum.infinity s).order (.infinity s) = some .eq := by
    intro s; cases s <;> rfl
  unfold Ieee.Format.read kindI
  simp only [hs, hi, hbi]
  generalize hm : b % 9223372036854775808 = m at *
  by_cases h1 : m < 4503599627370496
  · rw [if_pos h1, key, if_neg (by (repeat' split) <;> omega)]
  · rw [if_neg h1]
    by_cases h2 : m < 9218868437227405312
    · rw [if_pos h2, key, if_neg (by (repeat' split) <;> omega)]
    · rw [if_neg h2]
      by_cases h3 : m = 9218868437227405312
      · rw [if_pos h3, key2, if_neg (by (repeat' split) <;> omega)]
      · rw [if_neg h3, if_pos (by (repeat' split) <;> omega)]
        rfl

end Go.Hp

namespace Go.Hp
set_option linter.unusedVariables false
set_option linter.unusedSimpArgs false
open Go.RowKit

theorem kind_nan (b : Nat) : (FloatKind.f64.format.order b b != some .eq) = decide (kindI b = 0) := by
  rw [order_self]; by_cases h : kindI b = 0 <;> simp [h]

theorem kind_num (b : Nat) : (FloatKind.f64.format.order b b == some .eq) = decide (kindI b ≠ 0) := by
  rw [order_self]; by_cases h : kindI b = 0 <;> simp [h]

def bitsR (b : Nat) : Int := if kindI b = 0 then 9221120237041090560 else b

def negR (b : Nat) : Bool := decide (kindI b ≠ 0 ∧ 9223372036854775808 ≤ b)

def magR (b : Nat) : Nat := if ex b = 0 then fr b else fr b + 4503599627370496

def expR (b : Nat) : Int := if ex b = 0 then 1 else ex b

def partsR (b : Nat) : Int × Int × Bool :=
  if ex b = 2047 then (0, 0, false) else if magR b = 0 then (0, 0, true) else (((magR b / 2 ^ tz (magR b) : Nat) : Int), expR b - 1075 + (tz (magR b) : Nat), true)

theorem mag_lt (b : Nat) : magR b < 9007199254740992 := by unfold magR fr; split <;> omega

theorem kind_01 {b : Nat} (h : ex b = 2047) : kindI b = 0 ∨ kindI b = 1 := by unfold kindI; rw [if_pos h]; split <;> simp

theorem kind_2 {b : Nat} (h : ex b ≠ 2047) (hz : magR b = 0) : kindI b = 2 := by
  unfold kindI; unfold magR at hz; rw [if_neg h]; split at hz
  · rename_i c; rw [if_pos c, if_pos hz]
  · omega

theorem kind_34 {b : Nat} (h : ex b ≠ 2047) (hz : magR b ≠ 0) : (kindI b = 3 ∧ ex b = 0) ∨ (kindI b = 4 ∧ ex b ≠ 0) := by
  unfold kindI; unfold magR at hz; rw [if_neg h]; split at hz
  · rename_i c; rw [if_pos c, if_neg hz]; exact .inl ⟨rfl, c⟩
  · rename_i c; rw [if_neg c]; exact .inr ⟨rfl, c⟩

theorem tmod2 (m : Nat) : (((m : Int).tmod 2) == 0) = decide (m % 2 = 0) := by
  rw [Int.tmod_eq_emod_of_nonneg (by omega)]
  by_cases h : m % 2 = 0
  · simp only [h]; simp; omega
  · rw [decide_eq_false h]; simp only [beq_eq_false_iff_ne, ne_eq]; omega

theorem tdiv2 (m : Nat) : (m : Int).tdiv 2 = ((m / 2 : Nat) : Int) := by rw [Int.tdiv_eq_ediv_of_nonneg (by omega)]; omega

theorem wrap_nat {m : Nat} (h : m < 18446744073709551616) : IntKind.u64.wrap (m : Int) = (m : Int) := by rw [wrap_u64]; omega

def len (n : Nat) : Nat := if n = 0 then 0 else n.log2 + 1

theorem len_spec {n : Nat} (h : n ≠ 0) : 2 ^ (len n - 1) ≤ n ∧ n < 2 ^ len n := by
  unfold len; rw [if_neg h]
  exact ⟨Nat.log2_self_le h, Nat.lt_log2_self⟩

theorem len_le {n k : Nat} : len n ≤ k ↔ n < 2 ^ k := by
  unfold len
  by_cases h : n = 0
  · subst h; simp [Nat.two_pow_pos]
  · rw [if_neg h, ← Nat.log2_lt h]; omega

theorem len_shift {n : Nat} (k : Nat) (h : n / 2 ^ k ≠ 0) : len n = len (n / 2 ^ k) + k := by
  have hz : n ≠ 0 := fun e => h (by subst e; simp)
  obtain ⟨a, b⟩ := len_spec h
  have hp := Nat.two_pow_pos k
  have l1 : 0 < len (n / 2 ^ k) := by unfold len; rw [if_neg h]; omega
  apply Nat.le_antisymm
  · rw [len_le, Nat.pow_add]; exact (Nat.div_lt_iff_lt_mul hp).1 b
  · have : ¬ len n ≤ len (n / 2 ^ k) - 1 + k := by
      rw [len_le, Nat.pow_add]
      have := (Nat.le_div_iff_mul_le hp).1 a
      omega
    omega

def sgn (neg : Bool) : Nat := if neg then 9223372036854775808 else 0

def makeS (s m : Nat) (e : Int) : Nat × Bool :=
  if m = 0 then (s, true) else
  let k := tz m
  let o := m / 2 ^ k
  let n := len o
  if e < -2000 ∨ 2000 < e ∨ 53 < n ∨ e + k < -1074 ∨ 1024 < e + k + n then (0, false) else
  let r := min (53 - n) (e + k + 1074).toNat
  if o * 2 ^ r < 4503599627370496 then (s + o * 2 ^ r, true) else (s + (e + k - r + 1075).toNat * 4503599627370496 + o * 2 ^ r % 4503599627370496, true)

def makeR (neg : Bool) (m : Nat) (e : Int) : Nat × Bool := makeS (sgn neg) m e

theorem or_add {a b i : Nat} (ha : a % 2 ^ i = 0) (hb : b < 2 ^ i) (hl : a < 18446744073709551616) (hl' : b < 18446744073709551616) : bits .or .u64 (a : Int) (b : Int) = ((a + b : Nat) : Int) := by
  rw [u64_or_nat _ _ hl hl']
  congr 1
  obtain ⟨q, rfl⟩ := Nat.dvd_of_mod_eq_zero ha
  exact (Nat.two_pow_add_eq_or_of_lt hb q).symm

theorem len_mul {o : Nat} (r : Nat) (h : o ≠ 0) : len (o * 2 ^ r) = len o + r := by
  have h1 : o * 2 ^ r / 2 ^ r = o := Nat.mul_div_cancel _ (Nat.two_pow_pos r)
  have := len_shift (n := o * 2 ^ r) r (by rw [h1]; exact h)
  rw [h1] at this; exact this

theorem makeS_cases (s m : Nat) (e : Int) (hm : m < 18446744073709551616) : (m = 0 ∧ makeS s m e = (s, true)) ∨ (m ≠ 0 ∧ makeS s m e = (0, false) ∧ (e < -2000 ∨ 2000 < e ∨ 53 < len (m / 2 ^ tz m) ∨ e + tz m < -1074 ∨ 1024 < e + tz m + len (m / 2 ^ tz m))) ∨
    (m ≠ 0 ∧ -2000 ≤ e ∧ e ≤ 2000 ∧ ∃ r M : Nat, M = m / 2 ^ tz m * 2 ^ r ∧ r = min (53 - len (m / 2 ^ tz m)) (e + tz m + 1074).toNat ∧
      ((M < 4503599627370496 ∧ e + tz m - r = -1074 ∧ makeS s m e = (s + M, true)) ∨
       (4503599627370496 ≤ M ∧ M < 9007199254740992 ∧ ∃ E : Nat, e + tz m - r + 1075 = E ∧ 1 ≤ E ∧ E ≤ 2046 ∧ makeS s m e = (s + E * 4503599627370496 + M % 4503599627370496, true)))) := by
  by_cases hz : m = 0
  · exact .inl ⟨hz, by unfold makeS; rw [if_pos hz]⟩
  · right
    by_cases hc : e < -2000 ∨ 2000 < e ∨ 53 < len (m / 2 ^ tz m) ∨ e + tz m < -1074 ∨ 1024 < e + tz m + len (m / 2 ^ tz m)
    · exact .inl ⟨hz, by unfold makeS; rw [if_neg hz]; simp only []; rw [if_pos hc], hc⟩
    · right
      refine ⟨hz, by omega, by omega, _, _, rfl, rfl, ?_⟩
      have ho : m / 2 ^ tz m ≠ 0 := by have := (tz_spec m hz).1; intro e; rw [e] at this; omega
      have hlm := fun r => len_mul r ho
      have hn1 : 0 < len (m / 2 ^ tz m) := by unfold len; rw [if_neg ho]; omega
      have hmk : ∀ x, makeS s m e = x ↔ (let r := min (53 - len (m / 2 ^ tz m)) (e + tz m + 1074).toNat
          if m / 2 ^ tz m * 2 ^ r < 4503599627370496 then (s + m / 2 ^ tz m * 2 ^ r, true) else (s + (e + tz m - r + 1075).toNat * 4503599627370496 + m / 2 ^ tz m * 2 ^ r % 4503599627370496, true)) = x := by
        intro x; unfold makeS; rw [if_neg hz]; simp only []; rw [if_neg hc]
      simp only [hmk]
      clear hmk
      generalize m / 2 ^ tz m = o at *
      generalize tz m = k at *
      have hr : min (53 - len o) (e + k + 1074).toNat ≤ 53 - len o := Nat.min_le_left _ _
      have hr2 : ((min (53 - len o) (e + k + 1074).toNat : Nat) : Int) ≤ e + k + 1074 := by omega
      have hr3 : min (53 - len o) (e + k + 1074).toNat = 53 - len o ∨ ((min (53 - len o) (e + k + 1074).toNat : Nat) : Int) = e + k + 1074 := by omega
      generalize min (53 - len o) (e + k + 1074).toNat = r at *
      have hM : o * 2 ^ r < 2 ^ 53 := len_le.1 (by rw [hlm]; omega)
      have hMl : o * 2 ^ r < 4503599627370496 ↔ len o + r ≤ 52 := by rw [← hlm]; exact (len_le (k := 52)).symm
      by_cases c : o * 2 ^ r < 4503599627370496
      · left
        have c7 := hMl.1 c
        exact ⟨c, by omega, by rw [if_pos c]⟩
      · right
        have c7 : ¬ (len o + r ≤ 52) := fun x => c (hMl.2 x)
        refine ⟨by omega, by omega, (e + k - r + 1075).toNat, by omega, by omega, by omega, by rw [if_neg c]⟩

theorem kind_small {s M : Nat} (hs : s = 0 ∨ s = 9223372036854775808) (hM : M < 4503599627370496) : ex (s + M) = 0 ∧ fr (s + M) = M := by
  unfold ex fr; rcases hs with rfl | rfl <;> omega

theorem kind_norm {s E f : Nat} (hs : s = 0 ∨ s = 9223372036854775808) (hE : E ≤ 2046) (hf : f < 4503599627370496) : ex (s + E * 4503599627370496 + f) = E ∧ fr (s + E * 4503599627370496 + f) = f := by
  unfold ex fr; rcases hs with rfl | rfl <;> omega

theorem kind_ne {b : Nat} (h : ex b ≠ 2047) : kindI b ≠ 0 := by
  unfold kindI; rw [if_neg h]; split <;> (try split) <;> decide

theorem made_kind (s m : Nat) (e : Int) (hs : s = 0 ∨ s = 9223372036854775808) (hm : m < 18446744073709551616) : bitsR (makeS s m e).1 = (makeS s m e).1 ∧ (makeS s m e).1 < 18446744073709551616 := by
  have key : ∀ b, ex b ≠ 2047 → bitsR b = b := fun b h => by unfold bitsR; rw [if_neg (kind_ne h)]
  rcases makeS_cases s m e hm with ⟨_, h⟩ | ⟨_, h, _⟩ | ⟨_, _, _, r, M, _, _, ⟨hM, _, h⟩ | ⟨_, _, E, _, _, hE, h⟩⟩ <;> rw [h]
  · refine ⟨key _ ?_, by dsimp only; omega⟩
    have := (kind_small (M := 0) hs (by decide)).1
    rw [Nat.add_zero] at this; rw [this]; decide
  · exact ⟨key _ (by decide), by decide⟩
  · exact ⟨key _ (by rw [(kind_small hs hM).1]; decide), by dsimp only; omega⟩
  · exact ⟨key _ (by rw [(kind_norm hs hE (Nat.mod_lt _ (by decide))).1]; omega), by dsimp only; omega⟩

theorem sgn_or (neg : Bool) : sgn neg = 0 ∨ sgn neg = 9223372036854775808 := by cases neg <;> simp [sgn]

theorem make_parts (b : Nat) (hb : b < 18446744073709551616) (h : ex b ≠ 2047) : ∃ n : Nat, (partsR b).1 = n ∧ n < 18446744073709551616 ∧ (partsR b).2.2 = true ∧ makeR (negR b) n (partsR b).2.1 = (b, true) := by
  have hfr : fr b < 4503599627370496 := by unfold fr; omega
  have hex : ex b < 2047 := by have : ex b < 2048 := by unfold ex; omega
                               omega
  have hsb : b = sgn (negR b) + ex b * 4503599627370496 + fr b := by
    unfold negR sgn
    by_cases c : 9223372036854775808 ≤ b
    · rw [if_pos (decide_eq_true ⟨kind_ne h, c⟩)]; unfold ex fr; omega
    · rw [if_neg (by simp [c])]; unfold ex fr; omega
  have hs := sgn_or (negR b)
  unfold makeR
  unfold partsR; rw [if_neg h]
  by_cases c2 : magR b = 0
  · rw [if_pos c2]
    refine ⟨0, rfl, by decide, rfl, ?_⟩
    unfold makeS; rw [if_pos rfl]
    unfold magR at c2; split at c2
    · rename_i c; rw [c, c2] at hsb; rw [show sgn (negR b) = b by omega]
    · omega
  · rw [if_neg c2]
    have hm := mag_lt b
    obtain ⟨t1, t2⟩ := tz_spec (magR b) c2
    have hz0 : tz (magR b / 2 ^ tz (magR b)) = 0 := tz_odd t1
    have hml : magR b / 2 ^ tz (magR b) < 18446744073709551616 := Nat.lt_of_le_of_lt (Nat.div_le_self _ _) (Nat.lt_trans hm (by decide))
    refine ⟨_, rfl, hml, rfl, ?_⟩
    have hon : magR b / 2 ^ tz (magR b) ≠ 0 := fun e => by rw [e] at t1; omega
    have hlen := len_mul (tz (magR b)) hon
    rw [← t2] at hlen
    have hl53 : len (magR b) ≤ 53 := len_le.2 hm
    have hl52 : len (magR b) ≤ 52 ↔ magR b < 4503599627370496 := len_le (k := 52)
    have hn1 : 0 < len (magR b / 2 ^ tz (magR b)) := by unfold len; rw [if_neg hon]; omega
    have hexp : 1 ≤ expR b ∧ expR b ≤ 2046 := by unfold expR; split <;> omega
    have hme : (ex b = 0 ∧ expR b = 1 ∧ magR b = fr b) ∨ (ex b ≠ 0 ∧ expR b = ex b ∧ magR b = fr b + 4503599627370496) := by
      unfold expR magR; by_cases c : ex b = 0 <;> simp [c]
    rcases makeS_cases (sgn (negR b)) (magR b / 2 ^ tz (magR b)) (expR b - 1075 + (tz (magR b) : Nat)) hml with ⟨hz, _⟩ | ⟨_, _, hc⟩ | ⟨_, _, _, r, M, hM, hr, hh⟩
    · exact absurd hz hon
    · exfalso
      rw [hz0, Nat.pow_zero, Nat.div_one] at hc
      omega
    · rw [hz0, Nat.pow_zero, Nat.div_one] at hM hr
      rw [hz0] at hh
      have hrt : ∀ (n T L : Nat) (x : Int), r = min (53 - n) (x - 1075 + (T : Nat) + ((0 : Nat) : Int) + 1074).toNat → L = n + T → L ≤ 53 → 1 ≤ x → (x = 1 ∨ 52 < L) → r = T := by intros; omega
      have hrt : r = tz (magR b) := hrt _ _ _ _ hr hlen hl53 hexp.1 (by rcases hme with ⟨a1, a2, a3⟩ | ⟨a1, a2, a3⟩ <;> omega)
      rw [hrt, ← t2] at hM
      rw [hM] at hh
      rcases hh with ⟨g1, g2, g3⟩ | ⟨g1, g2, E, g3, g4, g5, g6⟩
      · rw [g3]
        have : sgn (negR b) + magR b = b := by rcases hme with ⟨a1, a2, a3⟩ | ⟨a1, a2, a3⟩ <;> omega
        rw [this]
      · rw [g6]
        have : sgn (negR b) + E * 4503599627370496 + magR b % 4503599627370496 = b := by rcases hme with ⟨a1, a2, a3⟩ | ⟨a1, a2, a3⟩ <;> omega
        rw [this]

theorem parts_make {m : Nat} {e : Int} (hm : m < 18446744073709551616) (hz : m ≠ 0) (hok : (makeR false m e).2 = true) :
    partsR (makeR false m e).1 = (((m / 2 ^ tz m : Nat) : Int), e + (tz m : Nat), true) ∧ -2000 ≤ e ∧ e ≤ 2000 := by
  unfold makeR at *
  have hs : sgn false = 0 := rfl
  obtain ⟨t1, t2⟩ := tz_spec m hz
  have hon : m / 2 ^ tz m ≠ 0 := fun e => by rw [e] at t1; omega
  rcases makeS_cases (sgn false) m e hm with ⟨h, _⟩ | ⟨_, hn, _⟩ | ⟨_, g1, g2, r, M, hM, hr, hh⟩
  · exact absurd h hz
  · rw [hn] at hok; cases hok
  · refine ⟨?_, g1, g2⟩
    obtain ⟨u1, u2⟩ := tz_mul (o := m / 2 ^ tz m) (k := r) t1
    rw [← hM] at u1 u2
    have hM0 : M ≠ 0 := by rw [hM]; exact Nat.mul_ne_zero hon (Nat.pos_iff_ne_zero.1 (Nat.two_pow_pos r))
    rcases hh with ⟨k1, k2, k3⟩ | ⟨k1, k2, E, k3, k4, k5, k6⟩
    · rw [k3]; dsimp only
      obtain ⟨x1, x2⟩ := kind_small (s := sgn false) (.inl rfl) k1
      have hmag : magR (sgn false + M) = M := by unfold magR; rw [if_pos x1, x2]
      unfold partsR; rw [if_neg (by rw [x1]; decide), hmag, if_neg hM0, u1, u2]
      unfold expR; rw [if_pos x1, show (1 : Int) - 1075 + (r : Nat) = e + (tz m : Nat) by omega]
    · rw [k6]; dsimp only
      obtain ⟨x1, x2⟩ := kind_norm (s := sgn false) (E := E) (f := M % 4503599627370496) (.inl rfl) k5 (Nat.mod_lt _ (by decide))
      have hmag : magR (sgn false + E * 4503599627370496 + M % 4503599627370496) = M := by unfold magR; rw [if_neg (by omega), x2]; omega
      unfold partsR; rw [if_neg (by rw [x1]; omega), hmag, if_neg hM0, u1, u2]
      unfold expR; rw [if_neg (by omega), x1, show ((E : Nat) : Int) - 1075 + (r : Nat) = e + (tz m : Nat) by omega]
end Go.Hp

namespace Go.Hp
set_option linter.unusedVariables false
set_option linter.unusedSimpArgs false
open Go.RowKit

theorem dbl : FloatKind.f64.format = Ieee.double := rfl
theorem dbl_sign : Ieee.double.signWeight = 9223372036854775808 := by decide
theorem dbl_inf : Ieee.double.infRung = 9218868437227405312 := by decide
theorem dbl_bin : Ieee.double.binade = 4503599627370496 := by decide
theorem dbl_least : Ieee.double.leastPlace = -1074 := by decide

theorem decode_fin {b : Nat} (hb : b < 18446744073709551616) (h : ex b ≠ 2047) : FloatKind.f64.decode b = .number (decide (9223372036854775808 ≤ b)) (magR b) (expR b - 1075) := by
  have hx : b % 9223372036854775808 / 4503599627370496 = ex b := by unfold ex; omega
  have hf : b % 9223372036854775808 % 4503599627370496 = fr b := by unfold fr; omega
  have he : ex b < 2048 := by unfold ex; omega
  show Ieee.Format.read Ieee.double b = _
  unfold Ieee.Format.read
  simp only [dbl_sign, dbl_inf, dbl_bin, dbl_least]
  have hn : (b / 9223372036854775808 % 2 == 1) = decide (9223372036854775808 ≤ b) := by
    by_cases c : 9223372036854775808 ≤ b
    · simp only [c]; simp; omega
    · rw [decide_eq_false c]; simp only [beq_eq_false_iff_ne, ne_eq]; omega
  rw [hn]
  unfold magR expR
  by_cases c : ex b = 0
  · rw [if_pos (by omega), if_pos c, if_pos c, show b % 9223372036854775808 = fr b by omega]; rfl
  · rw [if_neg (by omega), if_pos (by omega), if_neg c, if_neg c, hf, hx, Nat.add_comm]
    congr 1; omega

theorem cut_zero (s : Bool) (n drop : Nat) : Ieee.Toward.zero.cut s n drop = n / 2 ^ drop := by
  unfold Ieee.Toward.cut
  simp only [Nat.shiftLeft_eq, Nat.one_mul, Bool.toNat_false, Nat.add_zero]
  by_cases h : drop ≤ n.log2 + 2
  · rw [Nat.min_eq_left h]
  · rw [Nat.min_eq_right (by omega)]
    have h1 : n < 2 ^ (n.log2 + 2) := Nat.lt_of_lt_of_le Nat.lt_log2_self (Nat.pow_le_pow_right (by decide) (by omega))
    have h2 : n < 2 ^ drop := Nat.lt_of_lt_of_le h1 (Nat.pow_le_pow_right (by decide) (by omega))
    rw [Nat.div_eq_of_lt h1, Nat.div_eq_of_lt h2]

theorem cut_exact (s : Bool) {n drop : Nat} (hz : n ≠ 0) (h : n % 2 ^ drop = 0) : Ieee.Toward.even.cut s n drop = n / 2 ^ drop := by
  have h1 : 2 ^ drop ≤ n := Nat.le_of_dvd (Nat.pos_of_ne_zero hz) (Nat.dvd_of_mod_eq_zero h)
  have h2 : drop ≤ n.log2 := (Nat.le_log2 hz).2 h1
  have hp := Nat.two_pow_pos drop
  unfold Ieee.Toward.cut
  simp only [Nat.shiftLeft_eq, Nat.one_mul]
  rw [Nat.min_eq_left (by omega), h]
  have e1 : ((2 ^ drop == 2 * 0) : Bool) = false := by simp
  rw [e1]; simp

/-- The nearest float of a number that has one. -/
theorem nearest_exact (s : Bool) {c : Nat} (hz : c ≠ 0) (hL : c.log2 ≤ 1023) (hd : c % 2 ^ (c.log2 - 52) = 0) :
    ∃ kept, kept = c * 2 ^ (52 - c.log2) / 2 ^ (c.log2 - 52) ∧ 4503599627370496 ≤ kept ∧ kept < 9007199254740992 ∧ Ieee.double.nearest s c 0 = sgn s + (c.log2 + 1022) * 4503599627370496 + kept := by
  refine ⟨_, rfl, ?_⟩
  have hlo := Nat.log2_self_le hz
  have hhi : c < 2 ^ (c.log2 + 1) := Nat.lt_log2_self
  have hk : 4503599627370496 ≤ c * 2 ^ (52 - c.log2) / 2 ^ (c.log2 - 52) ∧ c * 2 ^ (52 - c.log2) / 2 ^ (c.log2 - 52) < 9007199254740992 := by
    rw [show (4503599627370496 : Nat) = 2 ^ 52 by decide, show (9007199254740992 : Nat) = 2 ^ 53 by decide]
    rw [Nat.le_div_iff_mul_le (Nat.two_pow_pos _), Nat.div_lt_iff_lt_mul (Nat.two_pow_pos _), ← Nat.pow_add, ← Nat.pow_add]
    generalize c.log2 = L at *
    by_cases hl : L ≤ 52
    · rw [show 52 + (L - 52) = L + (52 - L) by omega, show 53 + (L - 52) = L + 1 + (52 - L) by omega, Nat.pow_add, Nat.pow_add 2 (L + 1)]
      exact ⟨Nat.mul_le_mul_right _ hlo, (Nat.mul_lt_mul_right (Nat.two_pow_pos _)).2 hhi⟩
    · rw [show 52 + (L - 52) = L by omega, show 53 + (L - 52) = L + 1 by omega, show 52 - L = 0 by omega, Nat.pow_zero, Nat.mul_one]
      exact ⟨hlo, hhi⟩
  refine ⟨hk.1, hk.2, ?_⟩
  have hne : c * 2 ^ (52 - c.log2) ≠ 0 := Nat.mul_ne_zero hz (Nat.pos_iff_ne_zero.1 (Nat.two_pow_pos _))
  have hcut : Ieee.Toward.even.cut s (c * 2 ^ (52 - c.log2)) (c.log2 - 52) = c * 2 ^ (52 - c.log2) / 2 ^ (c.log2 - 52) := by
    refine cut_exact s hne ?_
    rw [Nat.mul_mod, hd, Nat.zero_mul, Nat.zero_mod]
  unfold Ieee.Format.nearest
  rw [if_neg hz]
  simp only [dbl_inf, dbl_bin, dbl_least, show Ieee.double.fractionBits = 52 from rfl]
  have e1 : max ((0 : Int) + (c.log2 : Nat) - (52 : Nat)) (-1074) = (c.log2 : Int) - 52 := by omega
  rw [e1, show ((0 : Int) - ((c.log2 : Int) - 52)).toNat = 52 - c.log2 by omega, show (((c.log2 : Int) - 52) - 0).toNat = c.log2 - 52 by omega, Nat.shiftLeft_eq, hcut,
    show ((c.log2 : Int) - 52 - -1074).toNat = c.log2 + 1022 by omega]
  generalize c * 2 ^ (52 - c.log2) / 2 ^ (c.log2 - 52) = kept at *
  rw [Nat.min_eq_left (by omega)]
  unfold Ieee.Format.word sgn
  rw [dbl_sign]
  cases s <;> simp; omega

theorem tz_dvd {m j : Nat} (hz : m ≠ 0) : m % 2 ^ j = 0 ↔ j ≤ tz m := by
  obtain ⟨t1, t2⟩ := tz_spec m hz
  constructor
  · intro h
    obtain ⟨q, hq⟩ := Nat.dvd_of_mod_eq_zero h
    have hq0 : q ≠ 0 := by intro e; rw [e] at hq; omega
    obtain ⟨u1, u2⟩ := tz_spec q hq0
    have : m = q / 2 ^ tz q * 2 ^ (tz q + j) := by
      rw [Nat.pow_add, ← Nat.mul_assoc, ← u2, Nat.mul_comm]; exact hq
    have := (tz_mul (o := q / 2 ^ tz q) (k := tz q + j) u1).1
    rename_i hm
    rw [← hm] at this
    omega
  · intro h
    rw [t2, show tz m = (tz m - j) + j by omega, Nat.pow_add, ← Nat.mul_assoc]
    exact Nat.mul_mod_left _ _

theorem log2_of {c L : Nat} (h1 : 2 ^ L ≤ c) (h2 : c < 2 ^ (L + 1)) : c.log2 = L := by
  have hz : c ≠ 0 := by have := Nat.two_pow_pos L; omega
  have a := (Nat.le_log2 hz).2 h1
  have b := (Nat.log2_lt hz).2 h2
  omega

/-- Is a normal float whole? -/
def wholeR (b : Nat) : Prop := 0 ≤ (ex b : Int) - 1075 + (tz (magR b) : Nat)
instance (b : Nat) : Decidable (wholeR b) := by unfold wholeR; exact inferInstance

theorem truncOK_fin {b : Nat} (hb : b < 18446744073709551616) (h : ex b ≠ 2047) : truncOK b := by
  unfold truncOK; rw [decode_fin hb h]; trivial

theorem sgn_neg (b : Nat) (hb : b < 18446744073709551616) : sgn (decide (9223372036854775808 ≤ b)) = if 9223372036854775808 ≤ b then 9223372036854775808 else 0 := by
  unfold sgn; by_cases c : 9223372036854775808 ≤ b <;> simp [c]

end Go.Hp

namespace Go.Hp
set_option linter.unusedVariables false
set_option linter.unusedSimpArgs false
open Go.RowKit

theorem ord_eq (s : Bool) (m n : Nat) (i j : Int) : ((Ieee.Datum.number s m i).order (.number s n j) != some .eq) = decide (m * 2 ^ (i - min i j).toNat ≠ n * 2 ^ (j - min i j).toNat) := by
  simp only [Ieee.Datum.order, Ieee.signed, Nat.shiftLeft_eq]
  generalize m * 2 ^ (i - min i j).toNat = p
  generalize n * 2 ^ (j - min i j).toNat = q
  have key : ∀ x y : Int, (some (compare x y) != some Ordering.eq) = decide (x ≠ y) := by
    intro x y
    simp only [compare, compareOfLessAndEq]
    by_cases h1 : x < y
    · rw [if_pos h1, decide_eq_true (by omega)]; rfl
    · rw [if_neg h1]
      by_cases h2 : x = y
      · rw [if_pos h2, decide_eq_false (by omega)]; rfl
      · rw [if_neg h2, decide_eq_true h2]; rfl
  rw [key]
  cases s
  · exact decide_eq_decide.2 (by simp; omega)
  · exact decide_eq_decide.2 (by simp; omega)

theorem trunc_num {b : Nat} {s : Bool} {m : Nat} {i : Int} (hd : FloatKind.f64.decode b = .number s m i) : truncF b = Ieee.double.nearest s (m * 2 ^ i.toNat / 2 ^ (-i).toNat) 0 := by
  unfold truncF; rw [hd]
  show FloatKind.f64.encode (Ieee.Datum.integral .zero (.number _ _ _)) = _
  simp only [Ieee.Datum.integral]
  rw [cut_zero, Nat.shiftLeft_eq]
  rfl

theorem float_split {b : Nat} (hb : b < 18446744073709551616) (hz : ex b ≠ 0) : b = sgn (decide (9223372036854775808 ≤ b)) + ex b * 4503599627370496 + fr b ∧ fr b < 4503599627370496 ∧ magR b = fr b + 4503599627370496 ∧ expR b = ex b := by
  refine ⟨?_, by unfold fr; omega, by unfold magR; rw [if_neg hz], by unfold expR; rw [if_neg hz]⟩
  rw [sgn_neg b hb]; unfold ex fr; split <;> omega

theorem trunc_big {b : Nat} (hb : b < 18446744073709551616) (h : ex b < 2047) (hi : 1075 ≤ ex b) : truncF b = b := by
  obtain ⟨hbs, hfr, hm, hx⟩ := float_split hb (by omega)
  have hd := decode_fin hb (by omega)
  rw [hx] at hd
  obtain ⟨j, hj⟩ : ∃ j : Nat, ex b = 1075 + j := ⟨ex b - 1075, by omega⟩
  rw [trunc_num hd, show (-((ex b : Int) - 1075)).toNat = 0 by omega, Nat.pow_zero, Nat.div_one, show ((ex b : Int) - 1075).toNat = j by omega]
  have hm0 : magR b ≠ 0 := by omega
  have hc0 : magR b * 2 ^ j ≠ 0 := Nat.mul_ne_zero hm0 (Nat.pos_iff_ne_zero.1 (Nat.two_pow_pos _))
  have hl : (magR b * 2 ^ j).log2 = 52 + j := by
    refine log2_of ?_ ?_
    · rw [Nat.pow_add]; exact Nat.mul_le_mul_right _ (by omega)
    · rw [show 52 + j + 1 = 53 + j by omega, Nat.pow_add]; exact (Nat.mul_lt_mul_right (Nat.two_pow_pos _)).2 (by omega)
  obtain ⟨kept, k1, k2, k3, k4⟩ := nearest_exact (decide (9223372036854775808 ≤ b)) hc0 (by omega) (by rw [hl, show 52 + j - 52 = j by omega]; exact Nat.mul_mod_left _ _)
  rw [hl, show 52 - (52 + j) = 0 by omega, Nat.pow_zero, Nat.mul_one, show 52 + j - 52 = j by omega, Nat.mul_div_cancel _ (Nat.two_pow_pos _)] at k1
  rw [k4, hl]
  generalize sgn (decide (9223372036854775808 ≤ b)) = S at *
  generalize magR b = M at *
  generalize fr b = f at *
  omega

/-- The nearest float of a small number, as a datum. -/
theorem near_small (s : Bool) {c : Nat} (hz : c ≠ 0) (hL : c.log2 ≤ 52) : FloatKind.f64.decode (Ieee.double.nearest s c 0) = .number s (c * 2 ^ (52 - c.log2)) ((c.log2 : Int) - 52) := by
  obtain ⟨kept, k1, k2, k3, k4⟩ := nearest_exact s hz (by omega) (by rw [show c.log2 - 52 = 0 by omega, Nat.pow_zero, Nat.mod_one])
  rw [show c.log2 - 52 = 0 by omega, Nat.pow_zero, Nat.div_one] at k1
  rw [k4, ← k1]
  clear k4 k1
  generalize c.log2 = L at *
  have hX := kind_norm (s := sgn s) (E := L + 1023) (f := kept - 4503599627370496) (sgn_or s) (by omega) (by omega)
  have hsg := sgn_or s
  have hss : s = decide (9223372036854775808 ≤ sgn s) := by cases s <;> rfl
  have hX0 : (9223372036854775808 ≤ sgn s + (L + 1023) * 4503599627370496 + (kept - 4503599627370496)) ↔ 9223372036854775808 ≤ sgn s := by omega
  rw [show sgn s + (L + 1022) * 4503599627370496 + kept = sgn s + (L + 1023) * 4503599627370496 + (kept - 4503599627370496) by omega]
  have hXl : sgn s + (L + 1023) * 4503599627370496 + (kept - 4503599627370496) < 18446744073709551616 := by omega
  generalize sgn s + (L + 1023) * 4503599627370496 + (kept - 4503599627370496) = X at *
  rw [decode_fin hXl (by omega)]
  have hXm : magR X = kept := by unfold magR; rw [if_neg (by omega), hX.2]; omega
  have hXe : expR X - 1075 = (L : Int) - 52 := by unfold expR; rw [if_neg (by omega), hX.1]; omega
  rw [hXm, hXe, decide_eq_decide.2 hX0, ← hss]

theorem trunc_whole {b : Nat} (hb : b < 18446744073709551616) (h : ex b < 2047) (hz : ex b ≠ 0) : (FloatKind.f64.format.order (truncF b) b != some .eq) = decide (¬ wholeR b) := by
  by_cases hi : 1075 ≤ ex b
  · rw [trunc_big hb h hi, kind_nan, decide_eq_false (kind_ne (by omega)), decide_eq_false]
    unfold wholeR; omega
  · obtain ⟨hbs, hfr, hm, hx⟩ := float_split hb hz
    have hd := decode_fin hb (by omega)
    obtain ⟨j, hj, hj0⟩ : ∃ j : Nat, expR b - 1075 = -(j : Int) ∧ 0 < j := ⟨1075 - ex b, by omega, by omega⟩
    have hm0 : magR b ≠ 0 := by omega
    have hw : wholeR b ↔ magR b % 2 ^ j = 0 := by rw [tz_dvd hm0]; unfold wholeR; omega
    rw [hj] at hd
    have ht := trunc_num hd
    rw [show (-(j : Int)).toNat = 0 by omega, Nat.pow_zero, Nat.mul_one, show (- -(j : Int)).toNat = j by omega] at ht
    have hmb : magR b < 2 ^ 53 := by omega
    have hmb' : 2 ^ 52 ≤ magR b := by omega
    rw [ht]
    show ((FloatKind.f64.decode _).order (FloatKind.f64.decode b) != some .eq) = _
    rw [hd]
    clear ht hd hbs hx hj hfr
    have hdm := Nat.div_add_mod (magR b) (2 ^ j)
    generalize decide (9223372036854775808 ≤ b) = s
    generalize magR b = m at *
    rw [decide_eq_decide.2 (not_congr hw)]
    by_cases hc : m / 2 ^ j = 0
    · have e1 : FloatKind.f64.decode (Ieee.double.nearest s 0 0) = .number s 0 (-1074) := by cases s <;> rfl
      rw [hc, e1, ord_eq, Nat.zero_mul]
      have hpos : 0 < m * 2 ^ (-(j : Int) - min (-1074) (-(j : Int))).toNat := Nat.mul_pos (by omega) (Nat.two_pow_pos _)
      rw [hc, Nat.mul_zero, Nat.zero_add] at hdm
      rw [decide_eq_true (by omega), decide_eq_true (by omega)]
    · have hcl : m / 2 ^ j < 2 ^ 53 := Nat.lt_of_le_of_lt (Nat.div_le_self _ _) hmb
      have hL : (m / 2 ^ j).log2 ≤ 52 := by have := (Nat.log2_lt hc).2 hcl; omega
      have hL2 : 52 - j ≤ (m / 2 ^ j).log2 := (Nat.le_log2 hc).2 (by
        rw [Nat.le_div_iff_mul_le (Nat.two_pow_pos _), ← Nat.pow_add]
        by_cases hj52 : j ≤ 52
        · rw [show 52 - j + j = 52 by omega]; exact hmb'
        · exact absurd (Nat.div_eq_of_lt (Nat.lt_of_lt_of_le hmb (Nat.pow_le_pow_right (by decide) (by omega)))) hc)
      rw [near_small s hc hL, ord_eq]
      have hv : m / 2 ^ j * 2 ^ (52 - (m / 2 ^ j).log2) * 2 ^ (j - (52 - (m / 2 ^ j).log2)) = m / 2 ^ j * 2 ^ j := by
        rw [Nat.mul_assoc, ← Nat.pow_add, show 52 - (m / 2 ^ j).log2 + (j - (52 - (m / 2 ^ j).log2)) = j by omega]
      generalize hLg : (m / 2 ^ j).log2 = L at *
      rw [show min ((L : Int) - 52) (-(j : Int)) = -(j : Int) by omega, show (((L : Int) - 52) - -(j : Int)).toNat = j - (52 - L) by omega, show (-(j : Int) - -(j : Int)).toNat = 0 by omega, Nat.pow_zero, Nat.mul_one, hv, Nat.mul_comm]
      exact decide_eq_decide.2 (by omega)
end Go.Hp

namespace Go.Hp
set_option linter.unusedVariables false
set_option linter.unusedSimpArgs false
open Go.RowKit

def sv (s : Bool) (x : Nat) : Int := if s then -(x : Int) else (x : Int)

theorem cmp_lt (x y : Int) : (some (compare x y) == some Ordering.lt) = decide (x < y) := by
  simp only [compare, compareOfLessAndEq]
  by_cases h1 : x < y
  · rw [if_pos h1, decide_eq_true h1]; rfl
  · rw [if_neg h1, decide_eq_false h1]; split <;> rfl
theorem cmp_ge (x y : Int) : (some (compare x y) == some Ordering.gt || some (compare x y) == some Ordering.eq) = decide (y ≤ x) := by
  simp only [compare, compareOfLessAndEq]
  by_cases h1 : x < y
  · rw [if_pos h1, decide_eq_false (by omega)]; rfl
  · rw [if_neg h1, decide_eq_true (by omega)]; split <;> rfl
theorem ord_num (s t : Bool) (m n : Nat) (i j : Int) : (Ieee.Datum.number s m i).order (.number t n j) = some (compare (sv s (m * 2 ^ (i - min i j).toNat)) (sv t (n * 2 ^ (j - min i j).toNat))) := by
  simp only [Ieee.Datum.order, Ieee.signed, Nat.shiftLeft_eq, sv]

/-- A normal float that is no int64. -/
def badR (b : Nat) : Prop := 1086 ≤ ex b ∧ ¬ (9223372036854775808 ≤ b ∧ ex b = 1086 ∧ fr b = 0)
instance (b : Nat) : Decidable (badR b) := by unfold badR; exact inferInstance

theorem range_bad {b : Nat} (hb : b < 18446744073709551616) (h : ex b < 2047) (hz : ex b ≠ 0) :
    (FloatKind.f64.format.order b 14114281232179134464 == some .lt || (FloatKind.f64.format.order b 4890909195324358656 == some .gt || FloatKind.f64.format.order b 4890909195324358656 == some .eq)) = decide (badR b) := by
  obtain ⟨hbs, hfr, hm, hx⟩ := float_split hb hz
  have hd := decode_fin hb (by omega)
  have hn : FloatKind.f64.decode 14114281232179134464 = .number true 4503599627370496 11 := by rw [decode_fin (by decide) (by decide)]; rfl
  have hp : FloatKind.f64.decode 4890909195324358656 = .number false 4503599627370496 11 := by rw [decode_fin (by decide) (by decide)]; rfl
  show ((FloatKind.f64.decode b).order (FloatKind.f64.decode 14114281232179134464) == some .lt || ((FloatKind.f64.decode b).order (FloatKind.f64.decode 4890909195324358656) == some .gt || (FloatKind.f64.decode b).order (FloatKind.f64.decode 4890909195324358656) == some .eq)) = _
  rw [hd, hn, hp, ord_num, ord_num, cmp_lt, cmp_ge, hx, hm]
  have hs : (decide (9223372036854775808 ≤ b) = true) = (9223372036854775808 ≤ b) := by simp
  unfold badR
  rw [← Bool.decide_or]
  apply decide_eq_decide.2
  simp only [sv, Bool.false_eq_true, if_false, if_true, hs]
  by_cases hi : 1086 ≤ ex b
  · obtain ⟨u, hu⟩ : ∃ u : Nat, ex b = 1086 + u := ⟨ex b - 1086, by omega⟩
    rw [show min ((ex b : Int) - 1075) 11 = 11 by omega, show ((ex b : Int) - 1075 - 11).toNat = u by omega, show ((11 : Int) - 11).toNat = 0 by omega, Nat.pow_zero, Nat.mul_one]
    have h1 : fr b + 4503599627370496 ≤ (fr b + 4503599627370496) * 2 ^ u := Nat.le_mul_of_pos_right _ (Nat.two_pow_pos u)
    have h2 : u = 0 ∨ 2 * (fr b + 4503599627370496) ≤ (fr b + 4503599627370496) * 2 ^ u := by
      rcases Nat.eq_zero_or_pos u with e | e
      · exact .inl e
      · right
        rw [Nat.mul_comm]
        exact Nat.mul_le_mul_left _ (by have := Nat.pow_le_pow_right (n := 2) (by decide) e; omega)
    have h3 : u = 0 → (fr b + 4503599627370496) * 2 ^ u = fr b + 4503599627370496 := by intro e; rw [e]; omega
    clear hd hm hx
    generalize (fr b + 4503599627370496) * 2 ^ u = q at *
    split <;> omega
  · obtain ⟨u, hu, hu0⟩ : ∃ u : Nat, ex b + u = 1086 ∧ 0 < u := ⟨1086 - ex b, by omega, by omega⟩
    rw [show min ((ex b : Int) - 1075) 11 = (ex b : Int) - 1075 by omega, show ((ex b : Int) - 1075 - ((ex b : Int) - 1075)).toNat = 0 by omega, show ((11 : Int) - ((ex b : Int) - 1075)).toNat = u by omega, Nat.pow_zero, Nat.mul_one]
    have h2 : 4503599627370496 * 2 ≤ 4503599627370496 * 2 ^ u := Nat.mul_le_mul_left _ (by have := Nat.pow_le_pow_right (n := 2) (by decide) hu0; omega)
    clear hd hm hx
    generalize 4503599627370496 * 2 ^ u = q at *
    split <;> omega

/-- A float without its sign, cut. -/
def natR (b : Nat) : Nat := magR b * 2 ^ (expR b - 1075).toNat / 2 ^ (-(expR b - 1075)).toNat
theorem toInt_fin {b : Nat} (hb : b < 18446744073709551616) (h : ex b ≠ 2047) : (FloatKind.f64.decode b).toInt .zero = some (sv (decide (9223372036854775808 ≤ b)) (natR b)) := by
  rw [decode_fin hb h]
  simp only [Ieee.Datum.toInt, Ieee.Datum.integral, cut_zero, Nat.shiftLeft_eq, Ieee.signed, Nat.pow_zero, Nat.mul_one, sv, natR]

/-- The number that a float is, or why it is none. -/
def intR (b : Nat) : Int × Int :=
  if kindI b = 0 then (0, 11) else if kindI b = 1 then (0, 12) else if kindI b = 2 then (0, 0) else if kindI b = 3 then (0, 13) else
  if ¬ wholeR b then (0, 13) else if badR b then (0, 10) else (sv (decide (9223372036854775808 ≤ b)) (natR b), 0)

theorem kind_4 {b : Nat} (hz : kindI b ≠ 0) (h1 : kindI b ≠ 1) (h2 : kindI b ≠ 2) (h3 : kindI b ≠ 3) : ex b < 2047 ∧ ex b ≠ 0 ∧ kindI b = 4 := by
  have hx : ex b < 2048 := by unfold ex; omega
  unfold kindI at *
  by_cases c : ex b = 2047
  · rw [if_pos c] at hz h1; by_cases d : fr b = 0
    · rw [if_pos d] at h1; exact absurd rfl h1
    · rw [if_neg d] at hz; exact absurd rfl hz
  · rw [if_neg c] at h2 h3 ⊢; by_cases d : ex b = 0
    · rw [if_pos d] at h2 h3; by_cases e : fr b = 0
      · rw [if_pos e] at h2; exact absurd rfl h2
      · rw [if_neg e] at h3; exact absurd rfl h3
    · exact ⟨by omega, d, by rw [if_neg d]⟩

/-- A whole normal float: an odd number times a power of two. -/
theorem nat_whole {b : Nat} (hb : b < 18446744073709551616) (h : ex b < 2047) (hz : ex b ≠ 0) (hw : wholeR b) :
    ∃ o k : Nat, o % 2 = 1 ∧ natR b = o * 2 ^ k ∧ (k : Int) = (ex b : Int) - 1075 + (tz (magR b) : Nat) ∧ o = magR b / 2 ^ tz (magR b) := by
  obtain ⟨hbs, hfr, hm, hx⟩ := float_split hb hz
  obtain ⟨t1, t2⟩ := tz_spec (magR b) (by omega)
  unfold wholeR at hw
  refine ⟨magR b / 2 ^ tz (magR b), ((ex b : Int) - 1075 + (tz (magR b) : Nat)).toNat, t1, ?_, by omega, rfl⟩
  unfold natR; rw [hx]
  generalize tz (magR b) = t at *
  generalize magR b = m at *
  generalize hog : m / 2 ^ t = o at *
  by_cases hi : 1075 ≤ ex b
  · rw [show (-((ex b : Int) - 1075)).toNat = 0 by omega, Nat.pow_zero, Nat.div_one, t2, Nat.mul_assoc, ← Nat.pow_add, show t + ((ex b : Int) - 1075).toNat = ((ex b : Int) - 1075 + (t : Nat)).toNat by omega]
  · rw [show ((ex b : Int) - 1075).toNat = 0 by omega, Nat.pow_zero, Nat.mul_one, t2]
    obtain ⟨j, hj⟩ : ∃ j : Nat, (-((ex b : Int) - 1075)).toNat = j := ⟨_, rfl⟩
    rw [hj, show ((ex b : Int) - 1075 + (t : Nat)).toNat = t - j by omega, show t = t - j + j by omega, Nat.pow_add, ← Nat.mul_assoc, Nat.mul_div_cancel _ (Nat.two_pow_pos _), show t - j + j - j = t - j by omega]

theorem makeS_shift (s o k : Nat) (ho : o % 2 = 1) (hk : k ≤ 2000) : makeS s (o * 2 ^ k) 0 = makeS s o k := by
  obtain ⟨u1, u2⟩ := tz_mul (o := o) (k := k) ho
  have hz := tz_odd ho
  have h1 : o * 2 ^ k ≠ 0 := Nat.mul_ne_zero (by omega) (Nat.pos_iff_ne_zero.1 (Nat.two_pow_pos _))
  have e1 : (0 : Int) + (k : Nat) = (k : Int) := by omega
  have e2 : (k : Int) + ((0 : Nat) : Int) = (k : Int) := by omega
  have ho0 : o ≠ 0 := by omega
  have hc : ((0 : Int) < -2000 ∨ 2000 < (0 : Int) ∨ 53 < len o ∨ (k : Int) < -1074 ∨ 1024 < (k : Int) + (len o : Nat)) ↔ ((k : Int) < -2000 ∨ 2000 < (k : Int) ∨ 53 < len o ∨ (k : Int) < -1074 ∨ 1024 < (k : Int) + (len o : Nat)) := by
    generalize len o = L; omega
  unfold makeS
  rw [if_neg h1, if_neg ho0]
  simp only [u1, u2, hz, Nat.pow_zero, Nat.div_one, e1, e2, hc]

theorem sv_lt {s : Bool} {x : Nat} (h : x ≠ 0) : decide (sv s x < 0) = s ∧ (sv s x).natAbs = x ∧ sv s x ≠ 0 := by
  cases s
  · exact ⟨decide_eq_false (by simp [sv]), by simp [sv], by simp [sv, h]⟩
  · exact ⟨decide_eq_true (by simp [sv]; omega), by simp [sv], by simp [sv, h]⟩

def floatR (n : Int) : Nat × Bool := makeR (decide (n < 0)) n.natAbs 0

/-- A float that is a number is made of it. -/
theorem float_of_int {b : Nat} {v : Int} (hb : b < 18446744073709551616) (h : intR b = (v, 0)) : (v = 0 ∧ (b = 0 ∨ b = 9223372036854775808)) ∨ (v ≠ 0 ∧ floatR v = (b, true)) := by
  unfold intR at h
  by_cases c0 : kindI b = 0
  · rw [if_pos c0] at h; simp at h
  rw [if_neg c0] at h
  by_cases c1 : kindI b = 1
  · rw [if_pos c1] at h; simp at h
  rw [if_neg c1] at h
  by_cases c2 : kindI b = 2
  · rw [if_pos c2] at h
    have : ex b = 0 ∧ fr b = 0 := by
      unfold kindI at c2; by_cases d : ex b = 2047
      · rw [if_pos d] at c2; split at c2 <;> simp at c2
      · rw [if_neg d] at c2; by_cases e : ex b = 0
        · rw [if_pos e] at c2; by_cases f : fr b = 0
          · exact ⟨e, f⟩
          · rw [if_neg f] at c2; simp at c2
        · rw [if_neg e] at c2; simp at c2
    left; refine ⟨by simp at h; omega, ?_⟩
    unfold ex fr at this; omega
  rw [if_neg c2] at h
  by_cases c3 : kindI b = 3
  · rw [if_pos c3] at h; simp at h
  rw [if_neg c3] at h
  obtain ⟨hx, hx0, _⟩ := kind_4 c0 c1 c2 c3
  by_cases cw : wholeR b
  · rw [if_neg (by simpa using cw)] at h
    by_cases cb : badR b
    · rw [if_pos cb] at h; simp at h
    · rw [if_neg cb] at h
      obtain ⟨o, k, o1, o2, o3, o4⟩ := nat_whole hb hx hx0 cw
      have hne : natR b ≠ 0 := by rw [o2]; exact Nat.mul_ne_zero (by omega) (Nat.pos_iff_ne_zero.1 (Nat.two_pow_pos _))
      obtain ⟨s1, s2, s3⟩ := sv_lt (s := decide (9223372036854775808 ≤ b)) hne
      have hv := (Prod.mk.inj h).1
      right
      rw [hv] at s1 s2 s3
      refine ⟨s3, ?_⟩
      obtain ⟨hbs, hfr, hm, hxx⟩ := float_split hb hx0
      have hmlt := mag_lt b
      have ht : tz (magR b) < 53 := tz_lt (by omega) (by omega)
      have hk : k ≤ 2000 := by omega
      obtain ⟨n, n1, n2, n3, n4⟩ := make_parts b hb (by omega)
      have hp : partsR b = (((magR b / 2 ^ tz (magR b) : Nat) : Int), expR b - 1075 + (tz (magR b) : Nat), true) := by unfold partsR; rw [if_neg (by omega), if_neg (by omega)]
      rw [hp] at n1 n4
      simp only [] at n1 n4
      have hno : n = o := by omega
      have hneg : negR b = decide (9223372036854775808 ≤ b) := by unfold negR; exact decide_eq_decide.2 ⟨fun x => x.2, fun x => ⟨c0, x⟩⟩
      rw [hno, hxx, ← o3, hneg] at n4
      unfold floatR makeR at *
      rw [s1, s2, o2, makeS_shift _ _ _ o1 hk]; exact n4
  · rw [if_pos (by simpa using cw)] at h; simp at h

theorem nearest_lt (n : Int) : FloatKind.f64.nearest n < 18446744073709551616 := by
  show Ieee.double.nearest (decide (n < 0)) n.natAbs 0 < _
  unfold Ieee.Format.nearest
  have key : ∀ s r, r ≤ Ieee.double.infRung → Ieee.double.word s r < 18446744073709551616 := by
    intro s r hr
    rw [dbl_inf] at hr
    unfold Ieee.Format.word
    rw [dbl_sign]
    split <;> omega
  split
  · exact key _ _ (Nat.zero_le _)
  · exact key _ _ (Nat.min_le_right _ _)

theorem exps1 {L lo k r : Nat} (h1 : L + 1 = lo + k) (h2 : r = 53 - lo) (h3 : lo ≤ 53) (h4 : L ≤ 52) : k + (52 - L) = r := by omega
theorem exps2 {L lo k r : Nat} (h1 : L + 1 = lo + k) (h2 : r = 53 - lo) (h3 : lo ≤ 53) (h4 : ¬ L ≤ 52) : r + (L - 52) = k := by omega
/-- A number that has a float is that float's. -/
theorem int_core {s : Bool} {c : Nat} (hm0 : c ≠ 0) (hle63 : c ≤ 9223372036854775808) (hs63 : c = 9223372036854775808 → s = true) (hok : (makeS (sgn s) c 0).2 = true) :
    Ieee.double.nearest s c 0 = (makeS (sgn s) c 0).1 ∧ intR (makeS (sgn s) c 0).1 = (sv s c, 0) := by
  have hml : c < 18446744073709551616 := by omega
  have hs := sgn_or s
  rcases makeS_cases (sgn (s)) c 0 hml with ⟨e, _⟩ | ⟨_, e, _⟩ | ⟨_, g1, g2, r, M, hM, hr, hh⟩
  · exact absurd e hm0
  · rw [e] at hok; cases hok
  · have hrr : ∀ (r n k : Nat), r = min (53 - n) ((0 : Int) + (k : Nat) + 1074).toNat → r = 53 - n := by intros; omega
    have hrr := hrr _ _ _ hr
    clear hr
    obtain ⟨t1, t2⟩ := tz_spec c hm0
    have hon : c / 2 ^ tz c ≠ 0 := fun e => by rw [e] at t1; omega
    have hlen := len_mul (tz c) hon
    rw [← t2] at hlen
    have hl1 : len c = c.log2 + 1 := by unfold len; rw [if_neg hm0]
    have hn1 : 0 < len (c / 2 ^ tz c) := by unfold len; rw [if_neg hon]; omega
    have t64 : tz c < 64 := tz_lt hm0 hml
    obtain ⟨u1, u2⟩ := tz_mul (o := c / 2 ^ tz c) (k := r) t1
    rw [← hM] at u1 u2
    have hdvd := @tz_dvd c (c.log2 - 52) hm0
    have hss : s = decide (9223372036854775808 ≤ sgn s) := by cases s <;> rfl
    have h63 : c = 9223372036854775808 → sgn s = 9223372036854775808 := by intro e; rw [hs63 e]; rfl
    have hlog : 2 ^ c.log2 ≤ c := Nat.log2_self_le hm0
    have hex := fun hL hd => nearest_exact (s) hm0 hL hd
    have hM53 : 53 < len (c / 2 ^ tz c) → False := by
      intro hc
      have h53 : 53 - len (c / 2 ^ tz c) = 0 := by omega
      have hr0 : r = 0 := by rw [hrr]; exact h53
      have := @len_le M 53
      have hM' : M = c / 2 ^ tz c := by rw [hM, hr0, Nat.pow_zero, Nat.mul_one]
      rcases hh with ⟨k1, k2, k3⟩ | ⟨k1, k2, E, k3, k4, k5, k6⟩
      · omega
      · have := this.2 (by omega); rw [hM'] at this; omega
    generalize hog : c / 2 ^ tz c = o at *
    generalize tz c = k at *
    rcases hh with ⟨k1, k2, k3⟩ | ⟨k1, k2, E, k3, k4, k5, k6⟩
    · omega
    · have hlo : len o ≤ 53 := Nat.le_of_not_lt hM53
      have hlk : c.log2 + 1 = len o + k := by rw [← hl1]; exact hlen
      clear hlen hl1
      generalize len o = lo at *
      obtain ⟨kept, q1, q2, q3, q4⟩ := hex (by omega) (hdvd.2 (by omega))
      have hkept : kept = M := by
        rw [q1, hM]
        clear hex hdvd hlog
        generalize c.log2 = L at *
        by_cases hl : L ≤ 52
        · rw [show L - 52 = 0 by omega, Nat.pow_zero, Nat.div_one]
          have : c * 2 ^ (52 - L) = o * 2 ^ k * 2 ^ (52 - L) := by rw [← t2]
          rw [this, Nat.mul_assoc, ← Nat.pow_add, exps1 hlk hrr hlo hl]
        · rw [show 52 - L = 0 by omega, Nat.pow_zero, Nat.mul_one]
          have : c = o * 2 ^ r * 2 ^ (L - 52) := by rw [Nat.mul_assoc, ← Nat.pow_add, exps2 hlk hrr hlo hl]; exact t2
          rw [this]; exact Nat.mul_div_cancel _ (Nat.two_pow_pos _)
      rw [k6, q4]
      dsimp only
      obtain ⟨x1, x2⟩ := kind_norm (s := sgn (s)) (E := E) (f := M % 4503599627370496) hs k5 (Nat.mod_lt _ (by decide))
      refine ⟨by rw [hkept]; (clear t2 u2 hM q1 hdvd hex hlog; omega), ?_⟩
      have hbig : 9223372036854775808 ≤ sgn (s) + E * 4503599627370496 + M % 4503599627370496 ↔ 9223372036854775808 ≤ sgn (s) := by (clear t2 u2 hM q1 hdvd hex hlog; omega)
      have hXl : sgn (s) + E * 4503599627370496 + M % 4503599627370496 < 18446744073709551616 := by (clear t2 u2 hM q1 hdvd hex hlog; omega)
      obtain ⟨X, hX⟩ : ∃ X, sgn (s) + E * 4503599627370496 + M % 4503599627370496 = X := ⟨_, rfl⟩
      rw [hX] at hbig hXl x1 x2 ⊢
      clear hX
      have hmag : magR X = M := by unfold magR; rw [if_neg (by (clear t2 u2 hM q1 hdvd hex hlog; omega)), x2]; (clear t2 u2 hM q1 hdvd hex hlog; omega)
      have hexp : expR X = E := by unfold expR; rw [if_neg (by (clear t2 u2 hM q1 hdvd hex hlog; omega)), x1]
      have hk4 : kindI X = 4 := by unfold kindI; rw [if_neg (by (clear t2 u2 hM q1 hdvd hex hlog; omega)), if_neg (by (clear t2 u2 hM q1 hdvd hex hlog; omega))]
      have hwh : wholeR X := by unfold wholeR; rw [hmag, u1, x1]; (clear t2 u2 hM q1 hdvd hex hlog; omega)
      obtain ⟨o', k', a1, a2, a3, a4⟩ := nat_whole hXl (by (clear t2 u2 hM q1 hdvd hex hlog; omega)) (by (clear t2 u2 hM q1 hdvd hex hlog; omega)) hwh
      rw [hmag, u1, u2] at a4
      rw [hmag, u1, x1] at a3
      have hk' : k' = k := by (clear t2 u2 hM q1 hdvd hex hlog; omega)
      have hnat : natR X = c := by rw [a2, a4, hk']; exact t2.symm
      have hbad : ¬ badR X := by
        unfold badR
        rw [x1, x2, hbig]
        intro ⟨b1, b2⟩
        have hL63 : 63 ≤ c.log2 := by (clear t2 u2 hM q1 hdvd hex hlog; omega)
        have : 9223372036854775808 ≤ c := Nat.le_trans (by rw [show (9223372036854775808 : Nat) = 2 ^ 63 by decide]; exact Nat.pow_le_pow_right (by decide) hL63) hlog
        have hnn : c = 9223372036854775808 := by (clear t2 u2 hM q1 hdvd hex hlog; omega)
        have hlg : c.log2 = 63 := by rw [hnn]; decide
        have hs63' := h63 hnn
        have hM52 : M = 4503599627370496 := by
          rw [← hkept, q1, hlg, hnn]
        exact b2 ⟨by (clear t2 u2 hM q1 hdvd hex hlog; omega), by (clear t2 u2 hM q1 hdvd hex hlog; omega), by (clear t2 u2 hM q1 hdvd hex hlog; omega)⟩
      unfold intR
      rw [hk4]
      simp only [show (4 : Int) ≠ 0 by decide, show (4 : Int) ≠ 1 by decide, show (4 : Int) ≠ 2 by decide, show (4 : Int) ≠ 3 by decide, if_false, hwh, not_true_eq_false, hbad]
      rw [hnat, decide_eq_decide.2 hbig, ← hss]

theorem int_of_float {n : Int} (h1 : -9223372036854775808 ≤ n) (h2 : n < 9223372036854775808) (hok : (floatR n).2 = true) : FloatKind.f64.nearest n = (floatR n).1 ∧ intR (floatR n).1 = (n, 0) := by
  by_cases hn0 : n = 0
  · subst hn0; exact ⟨by rfl, by rfl⟩
  obtain ⟨c, hc⟩ : ∃ c, n.natAbs = c := ⟨_, rfl⟩
  have hab : n = sv (decide (n < 0)) c := by unfold sv; by_cases d : n < 0 <;> simp [d] <;> omega
  have hc0 : c ≠ 0 := by omega
  have hc63 : c ≤ 9223372036854775808 := by omega
  have hc64 : c = 9223372036854775808 → decide (n < 0) = true := fun e => decide_eq_true (by omega)
  unfold floatR makeR at *
  rw [hc] at hok ⊢
  obtain ⟨g1, g2⟩ := int_core hc0 hc63 hc64 hok
  rw [← hab] at g2
  refine ⟨?_, g2⟩
  show Ieee.double.nearest (decide (n < 0)) n.natAbs 0 = _
  rw [hc]; exact g1
end Go.Hp

namespace Go.Proofs.YtokemibmanjpmaaGreatDoor
set_option linter.unusedVariables false
set_option linter.unusedSimpArgs false
open Go.Hp Go.RowKit

theorem fbit_Kind_of {b : Nat} {h : Heap} {K : Int → Heap → Prop} (hb : b < 18446744073709551616) (hk : K (kindI b) h) : fbit_Kind b h K := by
  unfold fbit_Kind
  have hx : b % 9223372036854775808 / 4503599627370496 = ex b := by unfold ex; omega
  have hf : b % 9223372036854775808 % 4503599627370496 = fr b := by unfold fr; omega
  rw [kind_nan, andNot_top b hb]
  refine bindV_intro fun n2 hn2 => ?_
  subst hn2
  rw [fdiv_nat, show (2 : Nat) ^ 52 = 4503599627370496 by decide, hx]
  have e1 : (((ex b : Nat) : Int) == 2047) = decide (ex b = 2047) := by by_cases h : ex b = 2047 <;> simp [h]; omega
  have e2 : (((ex b : Nat) : Int) == 0) = decide (ex b = 0) := by by_cases h : ex b = 0 <;> simp [h]
  have e3 : (((b % 9223372036854775808 : Nat) : Int) == 0) = decide (ex b = 0 ∧ fr b = 0) := by
    by_cases h : ex b = 0 ∧ fr b = 0
    · simp only [h]; simp; omega
    · rw [decide_eq_false h]; simp only [beq_eq_false_iff_ne, ne_eq]; omega
  rw [e1, e2, e3]
  simp only [iteB_decide]
  have e4 : ∀ p q : Prop, (p ∧ q) → (p ∧ q) := fun _ _ h => h
  by_cases c0 : kindI b = 0
  · rw [if_pos c0]; rw [c0] at hk; exact hk
  · rw [if_neg c0]; unfold kindI at hk c0
    refine ⟨by decide, ?_⟩
    by_cases c1 : ex b = 2047
    · rw [if_pos c1]; rw [if_pos c1] at hk c0
      by_cases c2 : fr b = 0
      · rw [if_pos c2] at hk; exact hk
      · rw [if_neg c2] at c0; exact absurd rfl c0
    · rw [if_neg c1]; rw [if_neg c1] at hk
      by_cases c2 : ex b = 0
      · rw [if_pos c2] at hk
        by_cases c3 : fr b = 0
        · rw [if_pos ⟨c2, c3⟩]; rw [if_pos c3] at hk; exact hk
        · rw [if_neg (fun x => c3 x.2), if_pos c2]; rw [if_neg c3] at hk; exact ⟨by decide, hk⟩
      · rw [if_neg (fun x => c2 x.1), if_neg c2]; rw [if_neg c2] at hk; exact ⟨by decide, hk⟩

theorem straitref02_Kind_of {b : Nat} {h : Heap} {K : Int → Heap → Prop} (hb : b < 18446744073709551616) (hk : K (kindI b) h) : straitref02_Kind (b : Int) h K := by
  unfold straitref02_Kind
  have hx : b / 4503599627370496 % 2048 = ex b := rfl
  rw [fdiv_nat, show (2 : Nat) ^ 52 = 4503599627370496 by decide, and_2047 _ (by omega), hx, and_low b hb]
  have e1 : (((ex b : Nat) : Int) == 2047) = decide (ex b = 2047) := by by_cases h : ex b = 2047 <;> simp [h]; omega
  have e2 : (((ex b : Nat) : Int) == 0) = decide (ex b = 0) := by by_cases h : ex b = 0 <;> simp [h]
  have e3 : (((fr b : Nat) : Int) == 0) = decide (fr b = 0) := by by_cases h : fr b = 0 <;> simp [h]
  have e4 : (((fr b : Nat) : Int) != 0) = decide (fr b ≠ 0) := by by_cases h : fr b = 0 <;> simp [h]
  simp only [e1, e2, e3, e4, iteB_decide]
  unfold kindI at hk
  refine ⟨by decide, ?_⟩
  by_cases c1 : ex b = 2047
  · by_cases c2 : fr b = 0 <;> simp [c1, c2] at hk ⊢ <;> exact hk
  · by_cases c2 : ex b = 0
    · by_cases c3 : fr b = 0 <;> simp [c2, c3] at hk ⊢ <;> exact hk
    · simp [c1, c2] at hk ⊢; exact hk

theorem fbit_Of_of {b : Nat} {h : Heap} {K : Nat → Heap → Prop} (hk : K b h) : fbit_Of (b : Int) h K := by unfold fbit_Of; simpa using hk

theorem straitref02_Neg_of {b : Nat} {h : Heap} {K : Bool → Heap → Prop} (hb : b < 18446744073709551616) (hk : K (negR b) h) : straitref02_Neg (b : Int) h K := by
  unfold straitref02_Neg; refine qcallP1.of (kindI b) (fun R hR => straitref02_Kind_of hb hR) ?_
  unfold negR at hk
  by_cases c : kindI b = 0
  · exact iteB_neg (by simp [c]) (by simpa [c] using hk)
  · refine iteB_pos (by simp [c]) ⟨by decide, ?_⟩
    rw [fdiv_nat, show (2 : Nat) ^ 63 = 9223372036854775808 by decide]
    have : (((b / 9223372036854775808 : Nat) : Int) == 1) = decide (9223372036854775808 ≤ b) := by
      by_cases c : 9223372036854775808 ≤ b
      · simp only [c]; simp; omega
      · rw [decide_eq_false c]; simp only [beq_eq_false_iff_ne, ne_eq]; omega
    rw [this]; simpa [c] using hk

theorem res3 {hz h : Heap} {b : Nat} {v0 v1 v2 : Value} {x y : Int} {z : Bool} {K : Int → Int → Bool → Heap → Prop} (r : row h b [v0, v1, v2]) (e : Ext hz h) (hb : hz.size ≤ b) (hk : ∀ h', Ext hz h' → K x y z h') :
    stC h ⟨b, 0, none⟩ (.int .u64 x) fun h25 => stC h25 ((⟨b, 0, none⟩ : Addr).add 1) (.int .i64 y) fun h26 => stC h26 ((⟨b, 0, none⟩ : Addr).add 2) (.bool z) fun h27 =>
      (∃ (x28 : Int), cell h27 ⟨b, 0, none⟩ = some (.int .u64 x28) ∧ ∃ (x29 : Int), cell h27 ((⟨b, 0, none⟩ : Addr).add 1) = some (.int .i64 x29) ∧ ∃ (x30 : Bool), cell h27 ((⟨b, 0, none⟩ : Addr).add 2) = some (.bool x30) ∧ K x28 x29 x30 h27) := by
  simp only [add_mk, Nat.zero_add]
  refine stC_row r (by simp) ?_
  have r1 := r.set 0 (.int .u64 x)
  refine stC_row r1 (by simp) ?_
  have r2 := r1.set 1 (.int .i64 y)
  refine stC_row r2 (by simp) ?_
  have r3 := r2.set 2 (.bool z)
  exact ⟨x, by rw [r3.cell]; rfl, y, by rw [r3.cell]; rfl, z, by rw [r3.cell]; rfl, hk _ (((e.setC hb _).setC hb _).setC hb _)⟩

theorem straitref02_Parts_l0 {K3 : Int → Int → Heap → Prop} {c2 : Addr} {h : Heap} : ∀ (k m : Nat) (e : Int), m ≠ 0 → m < 18446744073709551616 → tz m = k → -10000 ≤ e → e + (k : Nat) < 10000 → K3 (e + (k : Nat)) ((m / 2 ^ k : Nat) : Int) h → straitref02_Parts.l0 K3 (k + 1) c2 e (m : Int) h
  | 0, m, e, hz, hm, ht, g1, g2, hk => by
    have odd : m % 2 = 1 := by
      rcases Nat.mod_two_eq_zero_or_one m with e | e
      · rw [tz_even hz e] at ht; omega
      · exact e
    unfold straitref02_Parts.l0 straitref02_Parts.b0
    rw [tmod2, iteB_decide, if_neg (by omega)]
    exact ⟨by decide, by simpa using hk⟩
  | k + 1, m, e, hz, hm, ht, g1, g2, hk => by
    have even : m % 2 = 0 := by
      rcases Nat.mod_two_eq_zero_or_one m with e | e
      · exact e
      · rw [tz_odd e] at ht; omega
    have ht' : tz (m / 2) = k := by rw [tz_even hz even] at ht; omega
    unfold straitref02_Parts.l0 straitref02_Parts.b0
    rw [tmod2, iteB_decide, if_pos even, tdiv2, wrap_nat (by omega), wrap_id (by omega) (by omega)]
    refine ⟨by decide, by decide, straitref02_Parts_l0 k (m / 2) (e + 1) (by omega) (by omega) ht' (by omega) (by omega) ?_⟩
    rw [Nat.div_div_eq_div_mul, Nat.mul_comm, ← Nat.pow_succ, show e + 1 + (k : Nat) = e + ((k + 1 : Nat) : Int) by omega]; exact hk

theorem straitref02_Parts_of {b : Nat} {h : Heap} {K : Int → Int → Bool → Heap → Prop} (hb : b < 18446744073709551616) (hk : ∀ h', Ext h h' → K (partsR b).1 (partsR b).2.1 (partsR b).2.2 h') : straitref02_Parts (b : Int) h K := by
  have hx : b / 4503599627370496 % 2048 = ex b := rfl
  have hfr : fr b < 4503599627370496 := by unfold fr; omega
  have hex : ex b < 2048 := by unfold ex; omega
  unfold straitref02_Parts
  rw [fdiv_nat, show (2 : Nat) ^ 52 = 4503599627370496 by decide, and_2047 _ (by omega), hx, and_low b hb]
  refine newP_intro fun a h3 ha hs e3 r3 => ?_
  subst ha
  refine ⟨by decide, ?_⟩
  have hj : ∀ (m : Nat) (e : Int), m ≠ 0 → m < 9007199254740992 → 0 ≤ e → e < 3000 → (∀ h', Ext h h' → K ((m / 2 ^ tz m : Nat) : Int) (e - 1075 + (tz m : Nat)) true h') →
      (∃ m24, straitref02_Parts.l0 (fun z21 z22 h23 => ((stC h23 ⟨h.size, 0, none⟩ (.int .u64 z22) fun h25 => stC h25 ((⟨h.size, 0, none⟩ : Addr).add 1) (.int .i64 z21) fun h26 => stC h26 ((⟨h.size, 0, none⟩ : Addr).add 2) (.bool true) fun h27 => (∃ (x28 : Int), cell h27 ⟨h.size, 0, none⟩ = some (.int .u64 x28) ∧ ∃ (x29 : Int), cell h27 ((⟨h.size, 0, none⟩ : Addr).add 1) = some (.int .i64 x29) ∧ ∃ (x30 : Bool), cell h27 ((⟨h.size, 0, none⟩ : Addr).add 2) = some (.bool x30) ∧ K x28 x29 x30 h27)))) m24 ⟨h.size, 0, none⟩ (IntKind.i64.wrap (e - 1075)) (m : Int) h3) := by
    intro m e hz hm g1 g2 hk
    have t64 : tz m < 64 := tz_lt hz (Nat.lt_trans hm (by decide))
    refine ⟨tz m + 1, ?_⟩
    rw [wrap_id (by omega) (by omega)]
    exact straitref02_Parts_l0 (tz m) m (e - 1075) hz (by omega) rfl (by omega) (by omega) (res3 r3 e3 (Nat.le_refl _) hk)
  refine bindV_intro fun n4 hn4 => ?_
  subst hn4
  intro j31
  have hj31 : ∀ (m : Nat) (e : Int), m ≠ 0 → m < 9007199254740992 → 0 ≤ e → e < 3000 → (∀ h', Ext h h' → K ((m / 2 ^ tz m : Nat) : Int) (e - 1075 + (tz m : Nat)) true h') → j31 e (m : Int) := hj
  clear_value j31
  refine qcallP1.of (kindI b) (fun R hR => straitref02_Kind_of hb hR) ?_
  have e1 : IntKind.i64.wrap (ex b : Int) = (ex b : Int) := wrap_id (by omega) (by omega)
  have e2 : IntKind.u64.wrap ((fr b : Int) + 4503599627370496) = ((fr b + 4503599627370496 : Nat) : Int) := by rw [wrap_u64]; omega
  simp only [e1, e2]
  unfold partsR at hk
  by_cases c1 : ex b = 2047
  · rw [if_pos c1] at hk
    rcases kind_01 c1 with e | e <;> rw [e] <;> exact res3 r3 e3 (Nat.le_refl _) hk
  · rw [if_neg c1] at hk
    by_cases c2 : magR b = 0
    · rw [if_pos c2] at hk; rw [kind_2 c1 c2]; exact res3 r3 e3 (Nat.le_refl _) hk
    · rw [if_neg c2] at hk
      rcases kind_34 c1 c2 with ⟨e, e0⟩ | ⟨e, e0⟩
      · rw [e]
        unfold magR expR at hk; rw [if_pos e0, if_pos e0] at hk
        unfold magR at c2; rw [if_pos e0] at c2
        exact hj31 _ _ c2 (by omega) (by decide) (by decide) hk
      · rw [e]
        unfold magR expR at hk; rw [if_neg e0, if_neg e0] at hk
        exact hj31 _ _ (by omega) (by omega) (by omega) (by omega) hk

attribute [local irreducible] Go.Hp.iteB

end Go.Proofs.YtokemibmanjpmaaGreatDoor

namespace Go.Proofs.YtokemibmanjpmaaGreatDoor
set_option linter.unusedVariables false
set_option linter.unusedSimpArgs false
open Go.Hp Go.RowKit
attribute [local irreducible] Go.Hp.iteB

theorem nat_bad {b : Nat} (hb : b < 18446744073709551616) (h : ex b < 2047) (hz : ex b ≠ 0) (hw : wholeR b) : badR b ↔ 9223372036854775808 ≤ natR b ∧ ¬ (9223372036854775808 ≤ b ∧ natR b = 9223372036854775808) := by
  obtain ⟨hbs, hfr, hm, hx⟩ := float_split hb hz
  have hn : natR b = magR b * 2 ^ ((ex b : Int) - 1075).toNat / 2 ^ (-((ex b : Int) - 1075)).toNat := by unfold natR; rw [hx]
  unfold badR
  by_cases hi : 1086 ≤ ex b
  · obtain ⟨u, hu⟩ : ∃ u : Nat, ex b = 1086 + u := ⟨ex b - 1086, by omega⟩
    have e1 : natR b = (fr b + 4503599627370496) * 2048 * 2 ^ u := by
      rw [hn, show (-((ex b : Int) - 1075)).toNat = 0 by omega, Nat.pow_zero, Nat.div_one, show ((ex b : Int) - 1075).toNat = 11 + u by omega, Nat.pow_add, hm, ← Nat.mul_assoc]
    have g1 : (fr b + 4503599627370496) * 2048 ≤ natR b := by rw [e1]; exact Nat.le_mul_of_pos_right _ (Nat.two_pow_pos u)
    have g2 : u = 0 ∨ 2 * ((fr b + 4503599627370496) * 2048) ≤ natR b := by
      rcases Nat.eq_zero_or_pos u with e | e
      · exact .inl e
      · right
        rw [e1, Nat.mul_comm]
        exact Nat.mul_le_mul_left _ (by have := Nat.pow_le_pow_right (n := 2) (by decide) e; omega)
    have g3 : u = 0 → natR b = (fr b + 4503599627370496) * 2048 := by intro e; rw [e1, e]; omega
    clear hn e1
    generalize natR b = q at *
    omega
  · have g1 : natR b < 9223372036854775808 := by
      rw [hn]
      refine Nat.lt_of_le_of_lt (Nat.div_le_self _ _) ?_
      have : 2 ^ ((ex b : Int) - 1075).toNat ≤ 2 ^ 10 := Nat.pow_le_pow_right (by decide) (by omega)
      have := Nat.mul_le_mul_left (magR b) this
      have := mag_lt b
      omega
    omega

theorem sv_range {s : Bool} {x : Nat} (h : ¬ (9223372036854775808 ≤ x ∧ ¬ (s = true ∧ x = 9223372036854775808))) : -9223372036854775808 ≤ sv s x ∧ sv s x ≤ 9223372036854775807 := by
  unfold sv; cases s
  · simp at h ⊢; omega
  · simp at h ⊢; omega

theorem kind2_zero {b : Nat} (h : kindI b = 2) : ex b = 0 ∧ fr b = 0 := by
  unfold kindI at h
  by_cases d : ex b = 2047
  · rw [if_pos d] at h; split at h <;> simp at h
  · rw [if_neg d] at h; by_cases e : ex b = 0
    · rw [if_pos e] at h; by_cases f : fr b = 0
      · exact ⟨e, f⟩
      · rw [if_neg f] at h; simp at h
    · rw [if_neg e] at h; simp at h

theorem intR_err {b : Nat} (h : (intR b).2 ≠ 0) : (intR b).1 = 0 := by
  unfold intR at *
  repeat' split
  all_goals first | rfl | simp_all
theorem intR_ok {b : Nat} (hb : b < 18446744073709551616) (h : (intR b).2 = 0) : ex b ≠ 2047 ∧ sv (decide (9223372036854775808 ≤ b)) (natR b) = (intR b).1 ∧ -9223372036854775808 ≤ (intR b).1 ∧ (intR b).1 ≤ 9223372036854775807 := by
  unfold intR at *
  by_cases c0 : kindI b = 0
  · rw [if_pos c0] at h; simp at h
  rw [if_neg c0] at h ⊢
  by_cases c1 : kindI b = 1
  · rw [if_pos c1] at h; simp at h
  rw [if_neg c1] at h ⊢
  by_cases c2 : kindI b = 2
  · rw [if_pos c2] at h ⊢
    obtain ⟨z1, z2⟩ := kind2_zero c2
    have hm : magR b = 0 := by unfold magR; rw [if_pos z1, z2]
    have hn : natR b = 0 := by unfold natR; rw [hm]; simp
    rw [hn]
    exact ⟨by omega, by cases decide (9223372036854775808 ≤ b) <;> rfl, by decide, by decide⟩
  rw [if_neg c2] at h ⊢
  by_cases c3 : kindI b = 3
  · rw [if_pos c3] at h; simp at h
  rw [if_neg c3] at h ⊢
  obtain ⟨hx, hx0, _⟩ := kind_4 c0 c1 c2 c3
  by_cases cw : wholeR b
  · rw [if_neg (by simpa using cw)] at h ⊢
    by_cases cb : badR b
    · rw [if_pos cb] at h; simp at h
    · rw [if_neg cb]
      have := (not_congr (nat_bad hb hx hx0 cw)).1 cb
      obtain ⟨r1, r2⟩ := sv_range (s := decide (9223372036854775808 ≤ b)) (x := natR b) (by simpa using this)
      exact ⟨by omega, rfl, r1, r2⟩
  · rw [if_pos (by simpa using cw)] at h; simp at h

theorem fint_wrong_of {b : Nat} {h : Heap} {K : Int → Heap → Prop} (hb : b < 18446744073709551616) (hk : K (intR b).2 h) : fint_wrong b h K := by
  unfold fint_wrong
  refine qcallP1.of (kindI b) (fun R hR => fbit_Kind_of hb hR) ?_
  unfold intR at hk
  by_cases c0 : kindI b = 0
  · rw [if_pos c0] at hk; exact iteB_pos (by rw [c0]; rfl) hk
  rw [if_neg c0] at hk; refine iteB_neg (beq_eq_false_iff_ne.2 c0) ?_
  by_cases c1 : kindI b = 1
  · rw [if_pos c1] at hk; exact iteB_pos (by rw [c1]; rfl) hk
  rw [if_neg c1] at hk; refine iteB_neg (beq_eq_false_iff_ne.2 c1) ?_
  by_cases c2 : kindI b = 2
  · rw [if_pos c2] at hk; rw [c2]
    exact iteB_neg rfl (iteB_neg rfl (iteB_pos rfl hk))
  rw [if_neg c2] at hk
  by_cases c3 : kindI b = 3
  · rw [if_pos c3] at hk; exact iteB_pos (by rw [c3]; rfl) hk
  rw [if_neg c3] at hk; refine iteB_neg (beq_eq_false_iff_ne.2 c3) ?_
  obtain ⟨hx, hx0, c4⟩ := kind_4 c0 c1 c2 c3
  refine iteB_pos (by rw [c4]; rfl) ?_
  refine qcallP1.of (truncF b) (fun R hR => ⟨truncOK_fin hb (by omega), hR⟩) ?_
  rw [trunc_whole hb hx hx0]
  by_cases cw : wholeR b
  · rw [if_neg (by simpa using cw)] at hk
    refine iteB_neg (by simpa using cw) ?_
    have hr := range_bad hb hx hx0
    by_cases cb : badR b
    · rw [if_pos cb] at hk
      rw [decide_eq_true cb] at hr
      cases hA : (FloatKind.f64.format.order b 14114281232179134464 == some .lt) with
      | true => exact iteB_pos rfl hk
      | false => rw [hA, Bool.false_or] at hr; exact iteB_neg rfl (iteB_pos hr hk)
    · rw [if_neg cb] at hk
      rw [decide_eq_false cb] at hr
      obtain ⟨r1, r2⟩ := Bool.or_eq_false_iff.1 hr
      exact iteB_neg r1 (iteB_neg r2 hk)
  · rw [if_pos (by simpa using cw)] at hk
    exact iteB_pos (by simpa using cw) hk

theorem i64_min : IntKind.i64.min = -9223372036854775808 := by decide
theorem i64_max : IntKind.i64.max = 9223372036854775807 := by decide

theorem fint_Int_of {b : Nat} {h : Heap} {K : Int → Int → Heap → Prop} (hb : b < 18446744073709551616) (hk : K (intR b).1 (intR b).2 h) : fint_Int b h K := by
  unfold fint_Int
  refine qcallP1.of (intR b).2 (fun R hR => fint_wrong_of hb hR) ?_
  by_cases c : (intR b).2 = 0
  · obtain ⟨g1, g2, g3, g4⟩ := intR_ok hb c
    refine iteB_neg (by simp [c]) ⟨(intR b).1, by rw [toInt_fin hb g1, g2], by rw [i64_min, i64_max]; exact ⟨g3, g4⟩, ?_⟩
    rw [c] at hk; exact hk
  · refine iteB_pos (by simpa using c) ?_
    rw [intR_err c] at hk; exact hk

def weightR (b : Nat) : Int × Int := if (intR b).2 ≠ 0 then (0, (intR b).2) else if (intR b).1 < 0 ∨ (intR b).1 > 2147483648 then (0, 5) else ((intR b).1, 0)
theorem fint_Weight_of {b : Nat} {h : Heap} {K : Int → Int → Heap → Prop} (hb : b < 18446744073709551616) (hk : K (weightR b).1 (weightR b).2 h) : fint_Weight b h K := by
  unfold fint_Weight
  refine qcallP2.of (intR b).1 (intR b).2 (fun R hR => fint_Int_of hb hR) ?_
  unfold weightR at hk
  by_cases c : (intR b).2 = 0
  · rw [if_neg (by simpa using c)] at hk
    refine iteB_neg (by simp [c]) ?_
    by_cases c1 : (intR b).1 < 0
    · rw [if_pos (.inl c1)] at hk
      exact iteB_pos (decide_eq_true c1) (iteB_pos (decide_eq_true c1) hk)
    · refine iteB_neg (decide_eq_false c1) ?_
      by_cases c2 : (intR b).1 > 2147483648
      · rw [if_pos (.inr c2)] at hk
        exact iteB_pos (decide_eq_true c2) hk
      · rw [if_neg (by omega)] at hk
        exact iteB_neg (decide_eq_false c2) hk
  · rw [if_pos c] at hk
    exact iteB_pos (by simpa using c) hk

theorem floatR_no {n : Int} (h1 : -9223372036854775808 ≤ n) (h2 : n < 9223372036854775808) (h : (floatR n).2 = false) : (floatR n).1 = 0 := by
  unfold floatR makeR at *
  rcases makeS_cases (sgn (decide (n < 0))) n.natAbs 0 (by omega) with ⟨_, h'⟩ | ⟨_, h', _⟩ | ⟨_, _, _, r, M, _, _, ⟨hM, _, h'⟩ | ⟨_, _, E, _, _, hE, h'⟩⟩ <;> rw [h'] at h ⊢ <;> cases h

end Go.Proofs.YtokemibmanjpmaaGreatDoor

namespace Go.Proofs.YtokemibmanjpmaaGreatDoor
set_option linter.unusedVariables false
set_option linter.unusedSimpArgs false
open Go.Hp Go.RowKit
attribute [local irreducible] Go.Hp.iteB

abbrev put22 (h : Heap) (a : Addr) (x z : Int) (K : Int → Int → Heap → Prop) : Prop :=
  stC h a (.int .i64 x) fun h25 => stC h25 (a.add 1) (.int .i64 z) fun h27 =>
    (∃ (x28 : Int), cell h27 a = some (.int .i64 x28) ∧ ∃ (x30 : Int), cell h27 (a.add 1) = some (.int .i64 x30) ∧ K x28 x30 h27)
/-- A result of two numbers, set down and read. -/
theorem res22 {hz h : Heap} {b : Nat} {v0 v1 : Value} {x z : Int} {K : Int → Int → Heap → Prop} (r : row h b [v0, v1]) (e : Ext hz h) (hb : hz.size ≤ b) (hk : ∀ h', Ext hz h' → K x z h') :
    stC h ⟨b, 0, none⟩ (.int .i64 x) fun h25 => stC h25 ((⟨b, 0, none⟩ : Addr).add 1) (.int .i64 z) fun h27 =>
      (∃ (x28 : Int), cell h27 ⟨b, 0, none⟩ = some (.int .i64 x28) ∧ ∃ (x30 : Int), cell h27 ((⟨b, 0, none⟩ : Addr).add 1) = some (.int .i64 x30) ∧ K x28 x30 h27) := by
  simp only [add_mk, Nat.zero_add]
  refine stC_row r (by simp) ?_
  have r1 := r.set 0 (.int .i64 x)
  refine stC_row r1 (by simp) ?_
  have r2 := r1.set 1 (.int .i64 z)
  exact ⟨x, by rw [r2.cell]; rfl, z, by rw [r2.cell]; rfl, hk _ ((e.setC hb _).setC hb _)⟩

theorem straitref04_Int_l0 {K0 : Heap → Prop} {K3 : Int → Heap → Prop} {c0 : Int} {b2 b3 : Nat} {h : Heap} {E M : Nat} {z : Value} (hE : (E : Int) < 9223372036854775808) (r3 : row h b3 [.int .u64 (M : Int), .int .i64 (E : Int), z]) (hM : 0 < M) :
    ∀ (d i v : Nat), i + d = E → 0 < v → v < 18446744073709551616 → (v * 2 ^ d < 18446744073709551616 → K3 ((v * 2 ^ d : Nat) : Int) h) →
      (18446744073709551616 ≤ v * 2 ^ d → stC h ⟨b2, 0, none⟩ (.int .i64 0) fun h1 => stC h1 ((⟨b2, 0, none⟩ : Addr).add 1) (.int .i64 10) fun h2 => K0 h2) → straitref04_Int.l0 K0 K3 (d + 1) c0 ⟨b2, 0, none⟩ ⟨b3, 0, none⟩ (v : Int) (i : Int) h
  | 0, i, v, hi, hv0, hv, hk, hk' => by
    unfold straitref04_Int.l0 straitref04_Int.b0
    refine ⟨(E : Int), by rw [add_mk, r3.cell]; rfl, iteB_neg (decide_eq_false (by omega)) ?_⟩
    simpa using hk (by omega)
  | d + 1, i, v, hi, hv0, hv, hk, hk' => by
    have hp : v * 2 ^ (d + 1) = v * 2 * 2 ^ d := by rw [Nat.pow_succ, Nat.mul_comm (2 ^ d), Nat.mul_assoc]
    have h1 : v * 2 ≤ v * 2 * 2 ^ d := Nat.le_mul_of_pos_right _ (Nat.two_pow_pos d)
    unfold straitref04_Int.l0 straitref04_Int.b0
    refine ⟨(E : Int), by rw [add_mk, r3.cell]; rfl, iteB_pos (decide_eq_true (by omega)) ⟨(M : Int), by rw [r3.cell]; rfl, iteB_pos (decide_eq_true (by omega)) ?_⟩⟩
    refine iteB_intro (fun c => ?_) (fun c => ?_)
    · have c := of_decide_eq_true c
      exact hk' (by rw [hp]; omega)
    · have c := of_decide_eq_false c
      rw [show (v : Int) * 2 = ((v * 2 : Nat) : Int) by omega, wrap_nat (by omega), wrap_id (by omega) (by omega), show (i : Int) + 1 = ((i + 1 : Nat) : Int) by omega]
      rw [hp] at hk hk'
      exact straitref04_Int_l0 hE r3 hM d (i + 1) (v * 2) (by omega) (by omega) (by omega) hk hk'

theorem straitref04_Int_of {b : Nat} {h : Heap} {K : Int → Int → Heap → Prop} (hb : b < 18446744073709551616) (hk : ∀ h', Ext h h' → K (intR b).1 (intR b).2 h') : straitref04_Int (b : Int) h K := by
  unfold straitref04_Int
  refine newP_intro fun a h3 ha hs3 e3 r3 => ?_
  subst ha
  refine qcallP1.of (kindI b) (fun R hR => straitref02_Kind_of hb hR) ?_
  unfold intR at hk
  by_cases c0 : kindI b = 0
  · rw [if_pos c0] at hk
    exact iteB_pos (by rw [c0]; rfl) (res22 r3 e3 (Nat.le_refl _) hk)
  rw [if_neg c0] at hk; refine iteB_neg (beq_eq_false_iff_ne.2 c0) ?_
  by_cases c1 : kindI b = 1
  · rw [if_pos c1] at hk
    exact iteB_pos (by rw [c1]; rfl) (res22 r3 e3 (Nat.le_refl _) hk)
  rw [if_neg c1] at hk; refine iteB_neg (beq_eq_false_iff_ne.2 c1) ?_
  have hx2047 : ex b ≠ 2047 := by intro e; rcases kind_01 e with x | x <;> contradiction
  refine callP3.self (straitref02_Parts_of hb fun h16 e16 => ?_)
  refine newP_intro fun a17 h18 ha17 hs18 e18 r18 => ?_
  subst ha17
  have e318 := e16.trans e18
  have hsz := e16.size
  have hszz : h.size < h16.size := by omega
  rw [show ((⟨h16.size, 0, none⟩ : Addr).add 1) = ⟨h16.size, 1, none⟩ by rfl, show ((⟨h16.size, 0, none⟩ : Addr).add 2) = ⟨h16.size, 2, none⟩ by rfl]
  refine stC_row r18 (by simp) ?_
  have r19 := r18.set 0 (.int .u64 (partsR b).1)
  refine stC_row r19 (by simp) ?_
  have r20 := r19.set 1 (.int .i64 (partsR b).2.1)
  refine stC_row r20 (by simp) ?_
  have r21 := r20.set 2 (.bool (partsR b).2.2)
  have q21 : row _ h.size [.int .i64 0, .int .i64 0] := (((r3.ext e318).other (p := ⟨h16.size, 0, none⟩) (by show h16.size ≠ h.size; omega) (.int .u64 (partsR b).1)).other (p := ⟨h16.size, 1, none⟩) (by show h16.size ≠ h.size; omega) (.int .i64 (partsR b).2.1)).other (p := ⟨h16.size, 2, none⟩) (by show h16.size ≠ h.size; omega) (.bool (partsR b).2.2)
  have e21 := (((e3.trans e318).setC (p := ⟨h16.size, 0, none⟩) (by show h.size ≤ h16.size; omega) (.int .u64 (partsR b).1)).setC (p := ⟨h16.size, 1, none⟩) (by show h.size ≤ h16.size; omega) (.int .i64 (partsR b).2.1)).setC (p := ⟨h16.size, 2, none⟩) (by show h.size ≤ h16.size; omega) (.bool (partsR b).2.2)
  generalize setC (setC (setC h18 ⟨h16.size, 0, none⟩ (.int .u64 (partsR b).1)) ⟨h16.size, 1, none⟩ (.int .i64 (partsR b).2.1)) ⟨h16.size, 2, none⟩ (.bool (partsR b).2.2) = h21 at *
  simp only [List.set] at r21
  refine ⟨(partsR b).2.1, by rw [r21.cell]; rfl, ?_⟩
  -- What stands behind the loop
  have hend : ∀ (N : Nat), N < 18446744073709551616 → (∀ h', Ext h h' → K (if 9223372036854775808 ≤ N ∧ ¬ (9223372036854775808 ≤ b ∧ N = 9223372036854775808) then 0 else sv (decide (9223372036854775808 ≤ b)) N) (if 9223372036854775808 ≤ N ∧ ¬ (9223372036854775808 ≤ b ∧ N = 9223372036854775808) then 10 else 0) h') →
      qcallP1 h21 (straitref02_Neg (b : Int) h21) fun x34 =>
        iteB x34 (iteB (decide ((N : Int) > (9223372036854775808 : Int))) (put22 h21 ⟨h.size, 0, none⟩ 0 10 K) (put22 h21 ⟨h.size, 0, none⟩ (IntKind.i64.wrap (0 - (IntKind.i64.wrap (N : Int)))) 0 K))
          (iteB (decide ((N : Int) ≥ (9223372036854775808 : Int))) (put22 h21 ⟨h.size, 0, none⟩ 0 10 K) (put22 h21 ⟨h.size, 0, none⟩ (IntKind.i64.wrap (N : Int)) 0 K)) := by
    intro N hN hk
    refine qcallP1.of (negR b) (fun R hR => straitref02_Neg_of hb hR) ?_
    by_cases cs : 9223372036854775808 ≤ b
    · have hn : negR b = true := decide_eq_true ⟨c0, cs⟩
      rw [decide_eq_true cs] at hk
      refine iteB_pos hn (iteB_intro (fun c => ?_) (fun c => ?_))
      · have c := of_decide_eq_true c
        rw [if_pos ⟨by omega, by omega⟩, if_pos ⟨by omega, by omega⟩] at hk
        exact res22 q21 e21 (Nat.le_refl _) hk
      · have c := of_decide_eq_false c
        rw [if_neg (by omega), if_neg (by omega)] at hk
        have : IntKind.i64.wrap (0 - (IntKind.i64.wrap (N : Int))) = sv true N := by rw [wrap_i64_eq, wrap_i64_eq]; simp only [sv, if_true]; omega
        rw [this]
        exact res22 q21 e21 (Nat.le_refl _) hk
    · have hn : negR b = false := decide_eq_false (fun x => cs x.2)
      rw [decide_eq_false cs] at hk
      refine iteB_neg hn (iteB_intro (fun c => ?_) (fun c => ?_))
      · have c := of_decide_eq_true c
        rw [if_pos ⟨by omega, by omega⟩, if_pos ⟨by omega, by omega⟩] at hk
        exact res22 q21 e21 (Nat.le_refl _) hk
      · have c := of_decide_eq_false c
        rw [if_neg (by omega), if_neg (by omega)] at hk
        have : IntKind.i64.wrap (N : Int) = sv false N := by rw [wrap_i64_eq]; simp only [sv, Bool.false_eq_true, if_false]; omega
        rw [this]
        exact res22 q21 e21 (Nat.le_refl _) hk
  by_cases c2 : kindI b = 2
  · rw [if_pos c2] at hk
    obtain ⟨z1, z2⟩ := kind2_zero c2
    have hp : partsR b = (0, 0, true) := by unfold partsR magR; rw [if_neg (by omega), if_pos z1, if_pos z2]
    rw [hp] at r21 ⊢
    refine iteB_neg rfl ⟨0, by rw [r21.cell]; rfl, 1, ?_⟩
    unfold straitref04_Int.l0 straitref04_Int.b0
    refine ⟨0, by rw [add_mk, r21.cell]; rfl, iteB_neg rfl ?_⟩
    refine hend 0 (by decide) ?_
    rw [if_neg (by omega), if_neg (by omega)]
    have : sv (decide (9223372036854775808 ≤ b)) 0 = 0 := by cases decide (9223372036854775808 ≤ b) <;> rfl
    rw [this]; exact hk
  rw [if_neg c2] at hk
  by_cases c3 : kindI b = 3
  · rw [if_pos c3] at hk
    have hz : ex b = 0 ∧ fr b ≠ 0 := by
      unfold kindI at c3; rw [if_neg hx2047] at c3
      by_cases e : ex b = 0
      · rw [if_pos e] at c3; by_cases f : fr b = 0
        · rw [if_pos f] at c3; simp at c3
        · exact ⟨e, f⟩
      · rw [if_neg e] at c3; simp at c3
    have hm : magR b = fr b := by unfold magR; rw [if_pos hz.1]
    have ht : tz (magR b) < 53 := tz_lt (by omega) (by have := mag_lt b; omega)
    have hp : (partsR b).2.1 = 1 - 1075 + (tz (magR b) : Nat) := by unfold partsR expR; rw [if_neg hx2047, if_neg (by omega), if_pos hz.1]
    refine iteB_pos (decide_eq_true (by omega)) (res22 q21 e21 (Nat.le_refl _) hk)
  rw [if_neg c3] at hk
  obtain ⟨hx, hx0, c4⟩ := kind_4 c0 c1 c2 c3
  obtain ⟨hbs, hfr, hm, hxx⟩ := float_split hb hx0
  have hmlt := mag_lt b
  have ht : tz (magR b) < 53 := tz_lt (by omega) (by omega)
  have hp : partsR b = (((magR b / 2 ^ tz (magR b) : Nat) : Int), (ex b : Int) - 1075 + (tz (magR b) : Nat), true) := by unfold partsR; rw [if_neg hx2047, if_neg (by omega), hxx]
  by_cases cw : wholeR b
  · rw [if_neg (by simpa using cw)] at hk
    obtain ⟨o, k, o1, o2, o3, o4⟩ := nat_whole hb hx hx0 cw
    have hbad := nat_bad hb hx hx0 cw
    rw [hp, ← o4, ← o3] at r21 ⊢
    have hol : o ≤ magR b := by rw [o4]; exact Nat.div_le_self _ _
    have hO : 0 < o := by omega
    refine iteB_neg (decide_eq_false (by show ¬ ((k : Int) < 0); omega)) ⟨(o : Int), by rw [r21.cell]; rfl, k + 1, ?_⟩
    refine straitref04_Int_l0 (E := k) (M := o) (by omega) r21 hO k 0 o (by omega) hO (by omega) (fun hlt => ?_) (fun hge => ?_)
    · refine hend _ hlt ?_
      rw [← o2]
      by_cases cb : badR b
      · rw [if_pos cb] at hk
        rw [if_pos (hbad.1 cb), if_pos (hbad.1 cb)]; exact hk
      · rw [if_neg cb] at hk
        rw [if_neg (mt hbad.2 cb), if_neg (mt hbad.2 cb)]; exact hk
    · have cb : badR b := hbad.2 (by rw [o2]; omega)
      rw [if_pos cb] at hk
      exact res22 q21 e21 (Nat.le_refl _) hk
  · rw [if_pos (by simpa using cw)] at hk
    refine iteB_pos (decide_eq_true ?_) (res22 q21 e21 (Nat.le_refl _) hk)
    unfold wholeR at cw; rw [hp]; simp only []; omega
end Go.Proofs.YtokemibmanjpmaaGreatDoor

namespace Go.Proofs.YtokemibmanjpmaaGreatDoor
set_option linter.unusedVariables false
set_option linter.unusedSimpArgs false
open Go.Hp Go.RowKit
attribute [local irreducible] Go.Hp.iteB

theorem straitref04_Weight_of {b : Nat} {h : Heap} {K : Int → Int → Heap → Prop} (hb : b < 18446744073709551616) (hk : ∀ h', Ext h h' → K (weightR b).1 (weightR b).2 h') : straitref04_Weight (b : Int) h K := by
  unfold straitref04_Weight
  refine newP_intro fun a h3 ha hs3 e3 r3 => ?_
  subst ha
  refine callP2.self (straitref04_Int_of hb fun h6 e6 => ?_)
  refine newP_intro fun a7 h8 ha7 hs8 e8 r8 => ?_
  subst ha7
  have hsz := e6.size
  have hlt : h.size < h6.size := by omega
  rw [show ((⟨h6.size, 0, none⟩ : Addr).add 1) = ⟨h6.size, 1, none⟩ by rfl]
  refine stC_row r8 (by simp) ?_
  have r9 := r8.set 0 (.int .i64 (intR b).1)
  refine stC_row r9 (by simp) ?_
  have r10 := r9.set 1 (.int .i64 (intR b).2)
  have q10 : row _ h.size [.int .i64 0, .int .i64 0] := ((r3.ext (e6.trans e8)).other (p := ⟨h6.size, 0, none⟩) (by show h6.size ≠ h.size; omega) (.int .i64 (intR b).1)).other (p := ⟨h6.size, 1, none⟩) (by show h6.size ≠ h.size; omega) (.int .i64 (intR b).2)
  have e10 := ((e3.trans (e6.trans e8)).setC (p := ⟨h6.size, 0, none⟩) (by show h.size ≤ h6.size; omega) (.int .i64 (intR b).1)).setC (p := ⟨h6.size, 1, none⟩) (by show h.size ≤ h6.size; omega) (.int .i64 (intR b).2)
  generalize setC (setC h8 ⟨h6.size, 0, none⟩ (.int .i64 (intR b).1)) ⟨h6.size, 1, none⟩ (.int .i64 (intR b).2) = h10 at *
  simp only [List.set] at r10
  intro j19
  have hj1 : (∀ h', Ext h h' → K 0 5 h') → j19 true := fun hk => by
    simp only [j19]; exact iteB_pos rfl (res22 q10 e10 (Nat.le_refl _) hk)
  have hj2 : (∀ h', Ext h h' → K (intR b).1 (intR b).2 h') → j19 false := fun hk => by
    simp only [j19]
    exact iteB_neg rfl ⟨_, by rw [r10.cell]; rfl, _, by rw [r10.cell]; rfl, res22 q10 e10 (Nat.le_refl _) hk⟩
  clear_value j19
  refine ⟨_, by rw [r10.cell]; rfl, ?_⟩
  unfold weightR at hk
  by_cases c : (intR b).2 = 0
  · rw [if_neg (by simpa using c)] at hk
    refine iteB_pos (by rw [c]; rfl) ⟨_, by rw [r10.cell]; rfl, ?_⟩
    by_cases c1 : (intR b).1 < 0
    · rw [if_pos (.inl c1)] at hk
      exact iteB_pos (decide_eq_true c1) (hj1 hk)
    · refine iteB_neg (decide_eq_false c1) ⟨_, by rw [r10.cell]; rfl, ?_⟩
      by_cases c2 : (intR b).1 > 2147483648
      · rw [if_pos (.inr c2)] at hk
        rw [decide_eq_true c2]; exact hj1 hk
      · rw [if_neg (by omega)] at hk
        rw [decide_eq_false c2]; exact hj2 (by rw [c]; exact hk)
  · rw [if_pos c] at hk
    exact iteB_neg (beq_eq_false_iff_ne.2 c) (hj2 (by rw [intR_err c]; exact hk))

end Go.Proofs.YtokemibmanjpmaaGreatDoor

namespace Go.Hp
set_option linter.unusedVariables false
set_option linter.unusedSimpArgs false
open Go.RowKit

/-- A slice of one's own (made behind 'hz'): what it holds, with room behind. -/
def ownS (hz h : Heap) (q : Option Addr) (cap : Nat) (l : List Value) : Prop :=
  (q = none ∧ cap = 0 ∧ l = []) ∨ ∃ (b : Nat) (cs : List Value), q = some ⟨b, 0, none⟩ ∧ hz.size ≤ b ∧ row h b cs ∧ cs.length = cap ∧ l.length ≤ cap ∧ ∀ (i : Nat) (v : Value), l[i]? = some v → cs[i]? = some v

theorem ownS.nil (hz h : Heap) : ownS hz h none 0 [] := .inl ⟨rfl, rfl, rfl⟩
theorem ownS.vals {hz h : Heap} {q : Option Addr} {cap : Nat} {l : List Value} (o : ownS hz h q cap l) : valsAt h q l := by
  rcases o with ⟨rfl, rfl, rfl⟩ | ⟨b, cs, rfl, _, r, _, _, hl⟩
  · intro i v hi; simp at hi
  · exact valsAt.row r (fun i v hi => by rw [Nat.zero_add]; exact hl i v hi)
theorem ownS.ext {hz h h' : Heap} {q : Option Addr} {cap : Nat} {l : List Value} (o : ownS hz h q cap l) (e : Ext h h') : ownS hz h' q cap l := by
  rcases o with h | ⟨b, cs, h1, h2, r, h3⟩
  · exact .inl h
  · exact .inr ⟨b, cs, h1, h2, r.ext e, h3⟩
theorem ownS.other {hz h : Heap} {q : Option Addr} {cap : Nat} {l : List Value} (o : ownS hz h q cap l) {p : Addr} (hp : ∀ b, q = some ⟨b, 0, none⟩ → p.block ≠ b) (v : Value) : ownS hz (setC h p v) q cap l := by
  rcases o with h | ⟨b, cs, h1, h2, r, h3⟩
  · exact .inl h
  · exact .inr ⟨b, cs, h1, h2, r.other (hp b h1) v, h3⟩
theorem ownS.mono {hz h1 h : Heap} {q : Option Addr} {cap : Nat} {l : List Value} (o : ownS h1 h q cap l) (hs : hz.size ≤ h1.size) : ownS hz h q cap l := by
  rcases o with h | ⟨b, cs, g1, g2, r, g3⟩
  · exact .inl h
  · exact .inr ⟨b, cs, g1, Nat.le_trans hs g2, r, g3⟩

theorem cellsAt_row {h : Heap} {b : Nat} {cs : List Value} (r : row h b cs) {n : Nat} (hn : n ≤ cs.length) : cellsAt h (some ⟨b, 0, none⟩) n (cs.take n) :=
  ⟨by rw [List.length_take]; omega, fun j hj => ⟨_, rfl, by rw [add_mk, r.cell, Nat.zero_add, List.getElem?_take, if_pos hj]⟩⟩

theorem length_zeroRow1 (z : Value) (n : Nat) : (zeroRow [z] n).length = n := by
  induction n with
  | zero => rfl
  | succ n ih => simp [zeroRow, ih]

/-- One value appended. -/
theorem ownS.app {hz h : Heap} {q : Option Addr} {cap : Nat} {l : List Value} {e : TypeId} {bytes : Nat} {z v : Value} {K : Option Addr → Nat → Nat → Heap → Prop} (o : ownS hz h q cap l) (ex : Ext hz h) (hf : flat v = true)
    (hb : (l.length + 1) * bytes ≤ 2 ^ 46 ∧ l.length + 1 ≤ 2 ^ 46)
    (hk : ∀ q' c' h', ownS hz h' q' c' (l ++ [v]) → Ext hz h' → Chg (fun b => q = some ⟨b, 0, none⟩) h h' → (∀ b, q' = some ⟨b, 0, none⟩ → q = some ⟨b, 0, none⟩ ∨ b = h.size) → K q' (l.length + 1) c' h') :
    appP e 1 bytes [z] q l.length cap 1 [v] h K := by
  rcases o with ⟨rfl, rfl, rfl⟩ | ⟨b, cs, rfl, hb0, r, hcs, hlc, hl⟩
  · refine ⟨fun h => absurd h (by simp), fun _ => ⟨hb.1, hb.2, [], ⟨rfl, fun j hj => absurd hj (by simp)⟩, fun c hc => ?_⟩⟩
    refine hk _ _ _ (.inr ⟨h.size, _, rfl, ex.size, row.new h _ e, ?_, ?_, ?_⟩) (ex.push _) ((Ext.refl h).push _).chg (fun b hb => .inr (by simpa using hb.symm))
    · simp only [List.nil_append, List.length_append, List.length_singleton, length_zeroRow1]; simp at hc ⊢; omega
    · simpa using hc
    · intro i w hi
      have : i = 0 := by
        rcases i with _ | i
        · rfl
        · simp at hi
      subst this; simpa using hi
  · refine ⟨fun hc => ?_, fun hc => ⟨hb.1, hb.2, cs.take l.length, ?_, fun c hcc => ?_⟩⟩
    · show stL [v] h ((⟨b, 0, none⟩ : Addr).add (l.length * 1)) 0 _
      unfold stL
      rw [hf]
      simp only [add_mk, Nat.zero_add, Nat.mul_one, Nat.add_zero]
      refine stC_row r (by omega) ?_
      unfold stL
      refine hk _ _ _ (.inr ⟨b, _, rfl, hb0, r.set l.length v, by simpa using hcs, by simpa using hc, ?_⟩) (ex.setC hb0 v) (Chg.setC (fun x => some (⟨b, 0, none⟩ : Addr) = some ⟨x, 0, none⟩) h (p := ⟨b, l.length, none⟩) rfl v) (fun b' hb' => .inl hb')
      intro i w hi
      rw [List.getElem?_set]
      by_cases c : l.length = i
      · subst c
        rw [if_pos rfl, if_pos (by omega)]
        rw [List.getElem?_append_right (Nat.le_refl _)] at hi; simpa using hi
      · rw [if_neg c]
        by_cases d : i < l.length
        · rw [List.getElem?_append_left d] at hi; exact hl i w hi
        · rw [List.getElem?_append_right (by omega)] at hi
          have : i - l.length ≠ 0 := by omega
          rw [List.getElem?_eq_none (by simp; omega)] at hi; cases hi
    · rw [Nat.mul_one]; exact cellsAt_row r (by omega)
    · have hlen : (cs.take l.length).length = l.length := by rw [List.length_take]; omega
      refine hk _ _ _ (.inr ⟨h.size, _, rfl, ex.size, row.new h _ e, ?_, by simpa using hcc, ?_⟩) (ex.push _) ((Ext.refl h).push _).chg (fun b hb => .inr (by simpa using hb.symm))
      · simp only [List.length_append, hlen, List.length_singleton, length_zeroRow1]; omega
      · intro i w hi
        by_cases d : i < l.length
        · rw [List.getElem?_append_left d] at hi
          rw [List.append_assoc, List.getElem?_append_left (by omega), List.getElem?_take, if_pos d]; exact hl i w hi
        · rw [List.getElem?_append_right (by omega)] at hi
          rw [List.append_assoc, List.getElem?_append_right (by omega), hlen]
          have : i - l.length = 0 := by
            rcases Nat.eq_zero_or_pos (i - l.length) with e | e
            · exact e
            · rw [List.getElem?_eq_none (by simp; omega)] at hi; cases hi
          rw [this] at hi ⊢; simpa using hi
end Go.Hp

namespace Go.Proofs.YtokemibmanjpmaaGreatDoor
set_option linter.unusedVariables false
set_option linter.unusedSimpArgs false
open Go.Hp Go.RowKit
attribute [local irreducible] Go.Hp.iteB

/-- The first one that is no weight. -/
def firstErr : List Nat → Nat → Option (Nat × Int)
  | [], _ => none
  | b :: r, i => if (weightR b).2 ≠ 0 then some (i, (weightR b).2) else firstErr r (i + 1)

theorem fint_Weights_l0 {K0 : Option Addr → Nat → Nat → Int → Int → Heap → Prop} {K2 : Heap → Prop} {q : Option Addr} {qc a n : Nat} {hz : Heap} {bs : List Nat} (hn : n = bs.length) (hlen : bs.length < 9223372036854775808) (hbs : ∀ b ∈ bs, b < 18446744073709551616) (ha : hz.size ≤ a)
    (hv : valsAt hz q (bs.map (Value.float .f64))) (hk0 : ∀ i e h', firstErr bs 0 = some (i, e) → Ext hz h' → K0 none 0 0 e i h') (hk2 : ∀ h', firstErr bs 0 = none → Ext hz h' → row h' a (bs.map fun b => Value.int .i64 (weightR b).1) → K2 h') :
    ∀ (d i : Nat) (h : Heap) (cs : List Value), i + d = n → Ext hz h → row h a cs → cs.length = n → (∀ j, j < i → cs[j]? = (bs.map fun b => Value.int .i64 (weightR b).1)[j]?) → firstErr bs 0 = firstErr (bs.drop i) i →
      fint_Weights.l0 K0 K2 (d + 1) ⟨a, 0, none⟩ n n q n qc (n : Int) (i : Int) h
  | 0, i, h, cs, hi, e, r, hc, hj, hf => by
    unfold fint_Weights.l0 fint_Weights.b0
    refine iteB_neg (decide_eq_false (by omega)) (hk2 h ?_ e ?_)
    · rw [hf, List.drop_eq_nil_of_le (by omega)]; rfl
    · have : cs = bs.map fun b => Value.int .i64 (weightR b).1 := by
        apply List.ext_getElem?
        intro j
        by_cases hjn : j < n
        · exact hj j (by omega)
        · rw [List.getElem?_eq_none (by omega), List.getElem?_eq_none (by simp; omega)]
      rw [← this]; exact r
  | d + 1, i, h, cs, hi, e, r, hc, hj, hf => by
    have hib : i < bs.length := by omega
    obtain ⟨b, hb⟩ : ∃ b, bs[i]? = some b := ⟨_, List.getElem?_eq_getElem hib⟩
    have hbm : b ∈ bs := List.mem_of_getElem? hb
    have hdrop : bs.drop i = b :: bs.drop (i + 1) := by rw [List.drop_eq_getElem_cons hib]; congr 1; exact Option.some.inj ((List.getElem?_eq_getElem hib).symm.trans hb)
    obtain ⟨p, rfl, hp⟩ := hv i (.float .f64 b) (by rw [List.getElem?_map, hb]; rfl)
    rw [hdrop] at hf
    unfold fint_Weights.l0 fint_Weights.b0
    refine iteB_pos (decide_eq_true (by omega)) ?_
    rw [chkP_some]
    refine ⟨⟨by omega, by omega⟩, b, by rw [show ((i : Int).toNat * 1) = i by omega]; exact e.cell' hp, ?_⟩
    refine qcallP2.of _ _ (fun R hR => fint_Weight_of (hbs b hbm) hR) ?_
    by_cases c : (weightR b).2 = 0
    · refine iteB_neg (by simp [c]) ⟨⟨by omega, by omega⟩, ?_⟩
      rw [add_mk, show 0 + (i : Int).toNat * 1 = i by omega, wrap_id (by omega) (by omega), show (i : Int) + 1 = ((i + 1 : Nat) : Int) by omega]
      refine stC_row r (by omega) ?_
      refine fint_Weights_l0 hn hlen hbs ha hv hk0 hk2 d (i + 1) _ _ (by omega) (e.setC ha _) (r.set i _) (by simpa using hc) (fun j hj' => ?_) (by rw [hf]; exact if_neg (by simpa using c))
      rw [List.getElem?_set]
      by_cases hij : i = j
      · subst hij; rw [if_pos rfl, if_pos (by omega), List.getElem?_map, hb]; rfl
      · rw [if_neg hij]; exact hj j (by omega)
    · refine iteB_pos (by simpa using c) (hk0 i _ h ?_ e)
      rw [hf]; exact if_pos c
end Go.Proofs.YtokemibmanjpmaaGreatDoor

namespace Go.Proofs.YtokemibmanjpmaaGreatDoor
set_option linter.unusedVariables false
set_option linter.unusedSimpArgs false
open Go.Hp Go.RowKit
attribute [local irreducible] Go.Hp.iteB

theorem zeroRow_len (z : Value) (n : Nat) : (zeroRow [z] n).length = n := length_zeroRow1 z n

/-- Weights. -/
theorem fint_Weights_of {q : Option Addr} {qc : Nat} {h : Heap} {bs : List Nat} {K : Option Addr → Nat → Nat → Int → Int → Heap → Prop} (hlen : bs.length ≤ 100) (hbs : ∀ b ∈ bs, b < 18446744073709551616) (hv : valsAt h q (bs.map (Value.float .f64)))
    (hk0 : ∀ i e h', firstErr bs 0 = some (i, e) → Ext h h' → K none 0 0 e i h')
    (hk2 : ∀ a h', firstErr bs 0 = none → Ext h h' → row h' a (bs.map fun b => Value.int .i64 (weightR b).1) → K (some ⟨a, 0, none⟩) bs.length bs.length 0 0 h') : fint_Weights q bs.length qc h K := by
  unfold fint_Weights
  refine ⟨⟨by omega, by omega, by omega, by omega⟩, ?_⟩
  rw [Int.toNat_natCast]
  refine newP_intro fun a h3 ha hs e r => ?_
  refine ⟨bs.length + 1, fint_Weights_l0 (hz := h) rfl (by omega) hbs (by omega) hv hk0 (fun h' hn e' r' => hk2 a h' hn e' r') bs.length 0 h3 _ (by omega) e r (zeroRow_len _ _) (fun j hj => absurd hj (by omega)) (by rw [List.drop_zero])⟩

end Go.Proofs.YtokemibmanjpmaaGreatDoor

namespace Go.Proofs.YtokemibmanjpmaaGreatDoor
set_option linter.unusedVariables false
set_option linter.unusedSimpArgs false
open Go.Hp Go.RowKit
attribute [local irreducible] Go.Hp.iteB

theorem straitref04_Weights_l0 {K0 : Heap → Prop} {K2 : Option Addr → Nat → Nat → Heap → Prop} {q : Option Addr} {qc a n : Nat} {hz h3 : Heap} {bs : List Nat} (hn : n = bs.length) (hlen : bs.length ≤ 100) (hbs : ∀ b ∈ bs, b < 18446744073709551616) (e03 : Ext hz h3) (ha : hz.size ≤ a) (r3 : row h3 a [.slice none 0 0, .int .i64 0, .int .i64 0])
    (hv : valsAt hz q (bs.map fun (b : Nat) => Value.int .u64 (b : Int)))
    (hk0 : ∀ (i : Nat) (e : Int) h', firstErr bs 0 = some (i, e) → Ext hz h' → row h' a [.slice none 0 0, .int .i64 e, .int .i64 (i : Int)] → K0 h')
    (hk2 : ∀ q' c' h', firstErr bs 0 = none → Ext h3 h' → ownS h3 h' q' c' (bs.map fun b => Value.int .i64 (weightR b).1) → K2 q' bs.length c' h') :
    ∀ (d i : Nat) (h : Heap) (s : Option Addr) (sc : Nat), i + d = n → Ext h3 h → ownS h3 h s sc ((bs.take i).map fun b => Value.int .i64 (weightR b).1) → firstErr bs 0 = firstErr (bs.drop i) i →
      straitref04_Weights.l0 K0 K2 (d + 1) q n qc ⟨a, 0, none⟩ s i sc (i : Int) h
  | 0, i, h, s, sc, hi, e, o, hf => by
    unfold straitref04_Weights.l0 straitref04_Weights.b0
    have hib : i = bs.length := by omega
    subst hib
    rw [List.take_length] at o
    exact iteB_neg (decide_eq_false (by omega)) (hk2 s sc h (by rw [hf, List.drop_length]; rfl) e o)
  | d + 1, i, h, s, sc, hi, e, o, hf => by
    have hib : i < bs.length := by omega
    obtain ⟨b, hb⟩ : ∃ b, bs[i]? = some b := ⟨_, List.getElem?_eq_getElem hib⟩
    have hbm : b ∈ bs := List.mem_of_getElem? hb
    have hdrop : bs.drop i = b :: bs.drop (i + 1) := by rw [List.drop_eq_getElem_cons hib]; congr 1; exact Option.some.inj ((List.getElem?_eq_getElem hib).symm.trans hb)
    have htake : bs.take (i + 1) = bs.take i ++ [b] := by rw [List.take_add_one, hb]; rfl
    obtain ⟨p, rfl, hp⟩ := hv i (.int .u64 b) (by rw [List.getElem?_map, hb]; rfl)
    rw [hdrop] at hf
    unfold straitref04_Weights.l0 straitref04_Weights.b0
    refine iteB_pos (decide_eq_true (by omega)) ?_
    rw [chkP_some]
    refine ⟨⟨by omega, by omega⟩, (b : Int), by rw [show ((i : Int).toNat * 1) = i by omega]; exact (e03.trans e).cell' hp, ?_⟩
    refine callP2.self (straitref04_Weight_of (hbs b hbm) fun h12 e12 => ?_)
    refine newP_intro fun a13 h14 ha13 hs14 e14 r14 => ?_
    rw [show ((⟨a13, 0, none⟩ : Addr).add 1) = ⟨a13, 1, none⟩ by rfl]
    refine stC_row r14 (by simp) ?_
    have r15 := r14.set 0 (.int .i64 (weightR b).1)
    refine stC_row r15 (by simp) ?_
    have r16 := r15.set 1 (.int .i64 (weightR b).2)
    have hsz := e12.size
    have hsz3 := e.size
    have e16 : Ext h _ := ((e12.trans e14).setC (p := ⟨a13, 0, none⟩) (by show h.size ≤ a13; omega) (.int .i64 (weightR b).1)).setC (p := ⟨a13, 1, none⟩) (by show h.size ≤ a13; omega) (.int .i64 (weightR b).2)
    generalize setC (setC h14 ⟨a13, 0, none⟩ (.int .i64 (weightR b).1)) ⟨a13, 1, none⟩ (.int .i64 (weightR b).2) = h16 at *
    simp only [List.set] at r16
    refine ⟨_, by rw [r16.cell]; rfl, ?_⟩
    by_cases c : (weightR b).2 = 0
    · refine iteB_neg (by simp [c]) ⟨_, by rw [r16.cell]; rfl, ?_⟩
      refine newP_intro fun a23 h24 ha23 hs24 e24 r24 => ?_
      refine ⟨[.int .i64 (weightR b).1], cellsAt_row r24 (n := 1 * 1) (by simp), ?_⟩
      have hl : ((bs.take i).map fun b => Value.int .i64 (weightR b).1).length = i := by simp; omega
      have happ := ownS.app (e := 2) (bytes := 8) (z := .int .i64 0) (v := .int .i64 (weightR b).1) (o.ext (e16.trans e24)) (e.trans (e16.trans e24)) (by rfl) (by rw [hl]; omega)
        (K := fun q l c h => straitref04_Weights.l0 K0 K2 (d + 1) (some p) n qc ⟨a, 0, none⟩ q l c (IntKind.i64.wrap ((i : Int) + 1)) h) (fun q' c' h' o' e' _ _ => by
          rw [hl, wrap_id (by omega) (by omega), show (i : Int) + 1 = ((i + 1 : Nat) : Int) by omega]
          refine straitref04_Weights_l0 hn hlen hbs e03 ha r3 hv hk0 hk2 d (i + 1) h' q' c' (by omega) e' ?_ (by rw [hf]; exact if_neg (by simpa using c))
          rw [htake, List.map_append]; exact o')
      rw [hl] at happ
      exact happ
    · refine iteB_pos (by simpa using c) ⟨_, by rw [r16.cell]; rfl, ?_⟩
      have q16 := r3.ext (e.trans e16)
      rw [show ((⟨a, 0, none⟩ : Addr).add 1) = ⟨a, 1, none⟩ by rfl, show ((⟨a, 0, none⟩ : Addr).add 2) = ⟨a, 2, none⟩ by rfl]
      refine stC_row q16 (by simp) ?_
      have q17 := q16.set 0 (.slice none 0 0)
      refine stC_row q17 (by simp) ?_
      have q18 := q17.set 1 (.int .i64 (weightR b).2)
      refine stC_row q18 (by simp) ?_
      have q19 := q18.set 2 (.int .i64 (i : Int))
      simp only [List.set] at q19
      refine hk0 i _ _ (by rw [hf]; exact if_pos c) ?_ q19
      exact (((e03.trans (e.trans e16)).setC (p := ⟨a, 0, none⟩) ha _).setC (p := ⟨a, 1, none⟩) ha _).setC (p := ⟨a, 2, none⟩) ha _
end Go.Proofs.YtokemibmanjpmaaGreatDoor

namespace Go.Proofs.YtokemibmanjpmaaGreatDoor
set_option linter.unusedVariables false
set_option linter.unusedSimpArgs false
open Go.Hp Go.RowKit
attribute [local irreducible] Go.Hp.iteB

theorem straitref04_Weights_of {q : Option Addr} {qc : Nat} {h : Heap} {bs : List Nat} {K : Option Addr → Nat → Nat → Int → Int → Heap → Prop} (hlen : bs.length ≤ 100) (hbs : ∀ b ∈ bs, b < 18446744073709551616)
    (hv : valsAt h q (bs.map fun (b : Nat) => Value.int .u64 (b : Int)))
    (hk0 : ∀ (i : Nat) (e : Int) h', firstErr bs 0 = some (i, e) → Ext h h' → K none 0 0 e i h')
    (hk2 : ∀ q' c' h', firstErr bs 0 = none → Ext h h' → valsAt h' q' (bs.map fun b => Value.int .i64 (weightR b).1) → K q' bs.length c' 0 0 h') : straitref04_Weights q bs.length qc h K := by
  unfold straitref04_Weights
  refine newP_intro fun a h3 ha hs e r => ?_
  refine ⟨bs.length + 1, straitref04_Weights_l0 (hz := h) rfl hlen hbs e (by omega) r hv (fun i er h' hf e' r' => ?_) (fun q' c' h' hf e' o' => ?_) bs.length 0 h3 none 0 (by omega) (Ext.refl _) (.inl ⟨rfl, rfl, by simp⟩) (by rw [List.drop_zero])⟩
  · exact ⟨none, 0, 0, by rw [r'.cell]; rfl, er, by rw [add_mk, r'.cell]; rfl, (i : Int), by rw [add_mk, r'.cell]; rfl, hk0 i er h' hf e'⟩
  · have q3 := r.ext e'
    rw [show ((⟨a, 0, none⟩ : Addr).add 1) = ⟨a, 1, none⟩ by rfl, show ((⟨a, 0, none⟩ : Addr).add 2) = ⟨a, 2, none⟩ by rfl]
    refine stC_row q3 (by simp) ?_
    have q17 := q3.set 0 (.slice q' bs.length c')
    refine stC_row q17 (by simp) ?_
    have q18 := q17.set 1 (.int .i64 0)
    refine stC_row q18 (by simp) ?_
    have q19 := q18.set 2 (.int .i64 0)
    simp only [List.set] at q19
    have hne : ∀ b, q' = some ⟨b, 0, none⟩ → a ≠ b := by
      intro b hb
      rcases o' with ⟨z, _⟩ | ⟨b', cs, z, hb', _⟩
      · rw [z] at hb; cases hb
      · rw [z] at hb; cases hb; omega
    have o19 := ((o'.other (p := ⟨a, 0, none⟩) hne (.slice q' bs.length c')).other (p := ⟨a, 1, none⟩) hne (.int .i64 0)).other (p := ⟨a, 2, none⟩) hne (.int .i64 0)
    refine ⟨q', bs.length, c', by rw [q19.cell]; rfl, 0, by rw [q19.cell]; rfl, 0, by rw [q19.cell]; rfl, hk2 q' c' _ hf ?_ o19.vals⟩
    have ha' : h.size ≤ a := by omega
    exact (((e.trans e').setC (p := ⟨a, 0, none⟩) ha' _).setC (p := ⟨a, 1, none⟩) ha' _).setC (p := ⟨a, 2, none⟩) ha' _
end Go.Proofs.YtokemibmanjpmaaGreatDoor
