/-
  Plain laws on floats: the kinds, the parts, what is made.
-/
import Derived.Test.YtfidcekobjmamaaDoorB1
namespace Go.Hp
set_option linter.unusedVariables false
set_option linter.unusedSimpArgs false
open Go.RowKit

theorem kind_nan (b : Nat) : (FloatKind.f64.format.order b b != some .eq) = decide (kindI b = 0) := by
  rw [order_self]; by_cases h : kindI b = 0 <;> simp [h]

theorem kind_num (b : Nat) : (FloatKind.f64.format.order b b == some .eq) = decide (kindI b ≠ 0) := by
  rw [order_self]; by_cases h : kindI b = 0 <;> simp [h]

def bitsR (b : Nat) : Int := if kindI b = 0 then 9221120237041090560 else b

def negR (b : Nat) : Bool := decide (kindI b ≠ 0 ∧ 9223372036854775808 ≤ b)

def magR (b : Nat) : Nat := if ex b = 0 then fr b else fr b + 4503599627370496

def expR (b : Nat) : Int := if ex b = 0 then 1 else ex b

def partsR (b : Nat) : Int × Int × Bool :=
  if ex b = 2047 then (0, 0, false) else if magR b = 0 then (0, 0, true) else (((magR b / 2 ^ tz (magR b) : Nat) : Int), expR b - 1075 + (tz (magR b) : Nat), true)

theorem mag_lt (b : Nat) : magR b < 9007199254740992 := by unfold magR fr; split <;> omega

theorem kind_01 {b : Nat} (h : ex b = 2047) : kindI b = 0 ∨ kindI b = 1 := by unfold kindI; rw [if_pos h]; split <;> simp

theorem kind_2 {b : Nat} (h : ex b ≠ 2047) (h0 : magR b = 0) : kindI b = 2 := by
  unfold kindI; unfold magR at h0; rw [if_neg h]; split at h0
  · rename_i c; rw [if_pos c, if_pos h0]
  · omega

theorem kind_34 {b : Nat} (h : ex b ≠ 2047) (h0 : magR b ≠ 0) : (kindI b = 3 ∧ ex b = 0) ∨ (kindI b = 4 ∧ ex b ≠ 0) := by
  unfold kindI; unfold magR at h0; rw [if_neg h]; split at h0
  · rename_i c; rw [if_pos c, if_neg h0]; exact .inl ⟨rfl, c⟩
  · rename_i c; rw [if_neg c]; exact .inr ⟨rfl, c⟩

theorem tmod2 (m : Nat) : (((m : Int).tmod 2) == 0) = decide (m % 2 = 0) := by
  rw [Int.tmod_eq_emod_of_nonneg (by omega)]
  by_cases h : m % 2 = 0
  · simp only [h]; simp; omega
  · rw [decide_eq_false h]; simp only [beq_eq_false_iff_ne, ne_eq]; omega

theorem tdiv2 (m : Nat) : (m : Int).tdiv 2 = ((m / 2 : Nat) : Int) := by rw [Int.tdiv_eq_ediv_of_nonneg (by omega)]; omega

theorem wrap_nat {m : Nat} (h : m < 18446744073709551616) : IntKind.u64.wrap (m : Int) = (m : Int) := by rw [wrap_u64]; omega

def len (n : Nat) : Nat := if n = 0 then 0 else n.log2 + 1

theorem len_spec {n : Nat} (h : n ≠ 0) : 2 ^ (len n - 1) ≤ n ∧ n < 2 ^ len n := by
  unfold len; rw [if_neg h]
  exact ⟨Nat.log2_self_le h, Nat.lt_log2_self⟩

theorem len_le {n k : Nat} : len n ≤ k ↔ n < 2 ^ k := by
  unfold len
  by_cases h : n = 0
  · subst h; simp [Nat.two_pow_pos]
  · rw [if_neg h, ← Nat.log2_lt h]; omega

theorem len_shift {n : Nat} (k : Nat) (h : n / 2 ^ k ≠ 0) : len n = len (n / 2 ^ k) + k := by
  have h0 : n ≠ 0 := fun e => h (by subst e; simp)
  obtain ⟨a, b⟩ := len_spec h
  have hp := Nat.two_pow_pos k
  have l1 : 0 < len (n / 2 ^ k) := by unfold len; rw [if_neg h]; omega
  apply Nat.le_antisymm
  · rw [len_le, Nat.pow_add]; exact (Nat.div_lt_iff_lt_mul hp).1 b
  · have : ¬ len n ≤ len (n / 2 ^ k) - 1 + k := by
      rw [len_le, Nat.pow_add]
      have := (Nat.le_div_iff_mul_le hp).1 a
      omega
    omega

def sgn (neg : Bool) : Nat := if neg then 9223372036854775808 else 0

def makeS (s m : Nat) (e : Int) : Nat × Bool :=
  if m = 0 then (s, true) else
  let k := tz m
  let o := m / 2 ^ k
  let n := len o
  if e < -2000 ∨ 2000 < e ∨ 53 < n ∨ e + k < -1074 ∨ 1024 < e + k + n then (0, false) else
  let r := min (53 - n) (e + k + 1074).toNat
  if o * 2 ^ r < 4503599627370496 then (s + o * 2 ^ r, true) else (s + (e + k - r + 1075).toNat * 4503599627370496 + o * 2 ^ r % 4503599627370496, true)

def makeR (neg : Bool) (m : Nat) (e : Int) : Nat × Bool := makeS (sgn neg) m e

theorem or_add {a b i : Nat} (ha : a % 2 ^ i = 0) (hb : b < 2 ^ i) (hl : a < 18446744073709551616) (hl' : b < 18446744073709551616) : bits .or .u64 (a : Int) (b : Int) = ((a + b : Nat) : Int) := by
  rw [u64_or_nat _ _ hl hl']
  congr 1
  obtain ⟨q, rfl⟩ := Nat.dvd_of_mod_eq_zero ha
  exact (Nat.two_pow_add_eq_or_of_lt hb q).symm

theorem len_mul {o : Nat} (r : Nat) (h : o ≠ 0) : len (o * 2 ^ r) = len o + r := by
  have h1 : o * 2 ^ r / 2 ^ r = o := Nat.mul_div_cancel _ (Nat.two_pow_pos r)
  have := len_shift (n := o * 2 ^ r) r (by rw [h1]; exact h)
  rw [h1] at this; exact this

theorem makeS_cases (s m : Nat) (e : Int) (hm : m < 18446744073709551616) : (m = 0 ∧ makeS s m e = (s, true)) ∨ (m ≠ 0 ∧ makeS s m e = (0, false) ∧ (e < -2000 ∨ 2000 < e ∨ 53 < len (m / 2 ^ tz m) ∨ e + tz m < -1074 ∨ 1024 < e + tz m + len (m / 2 ^ tz m))) ∨
    (m ≠ 0 ∧ -2000 ≤ e ∧ e ≤ 2000 ∧ ∃ r M : Nat, M = m / 2 ^ tz m * 2 ^ r ∧ r = min (53 - len (m / 2 ^ tz m)) (e + tz m + 1074).toNat ∧
      ((M < 4503599627370496 ∧ e + tz m - r = -1074 ∧ makeS s m e = (s + M, true)) ∨
       (4503599627370496 ≤ M ∧ M < 9007199254740992 ∧ ∃ E : Nat, e + tz m - r + 1075 = E ∧ 1 ≤ E ∧ E ≤ 2046 ∧ makeS s m e = (s + E * 4503599627370496 + M % 4503599627370496, true)))) := by
  by_cases h0 : m = 0
  · exact .inl ⟨h0, by unfold makeS; rw [if_pos h0]⟩
  · right
    by_cases hc : e < -2000 ∨ 2000 < e ∨ 53 < len (m / 2 ^ tz m) ∨ e + tz m < -1074 ∨ 1024 < e + tz m + len (m / 2 ^ tz m)
    · exact .inl ⟨h0, by unfold makeS; rw [if_neg h0]; simp only []; rw [if_pos hc], hc⟩
    · right
      refine ⟨h0, by omega, by omega, _, _, rfl, rfl, ?_⟩
      have ho : m / 2 ^ tz m ≠ 0 := by have := (tz_spec m h0).1; intro e; rw [e] at this; omega
      have hlm := fun r => len_mul r ho
      have hn1 : 0 < len (m / 2 ^ tz m) := by unfold len; rw [if_neg ho]; omega
      have hmk : ∀ x, makeS s m e = x ↔ (let r := min (53 - len (m / 2 ^ tz m)) (e + tz m + 1074).toNat
          if m / 2 ^ tz m * 2 ^ r < 4503599627370496 then (s + m / 2 ^ tz m * 2 ^ r, true) else (s + (e + tz m - r + 1075).toNat * 4503599627370496 + m / 2 ^ tz m * 2 ^ r % 4503599627370496, true)) = x := by
        intro x; unfold makeS; rw [if_neg h0]; simp only []; rw [if_neg hc]
      simp only [hmk]
      clear hmk
      generalize m / 2 ^ tz m = o at *
      generalize tz m = k at *
      have hr : min (53 - len o) (e + k + 1074).toNat ≤ 53 - len o := Nat.min_le_left _ _
      have hr2 : ((min (53 - len o) (e + k + 1074).toNat : Nat) : Int) ≤ e + k + 1074 := by omega
      have hr3 : min (53 - len o) (e + k + 1074).toNat = 53 - len o ∨ ((min (53 - len o) (e + k + 1074).toNat : Nat) : Int) = e + k + 1074 := by omega
      generalize min (53 - len o) (e + k + 1074).toNat = r at *
      have hM : o * 2 ^ r < 2 ^ 53 := len_le.1 (by rw [hlm]; omega)
      have hMl : o * 2 ^ r < 4503599627370496 ↔ len o + r ≤ 52 := by rw [← hlm]; exact (len_le (k := 52)).symm
      by_cases c : o * 2 ^ r < 4503599627370496
      · left
        have c7 := hMl.1 c
        exact ⟨c, by omega, by rw [if_pos c]⟩
      · right
        have c7 : ¬ (len o + r ≤ 52) := fun x => c (hMl.2 x)
        refine ⟨by omega, by omega, (e + k - r + 1075).toNat, by omega, by omega, by omega, by rw [if_neg c]⟩

theorem kind_small {s M : Nat} (hs : s = 0 ∨ s = 9223372036854775808) (hM : M < 4503599627370496) : ex (s + M) = 0 ∧ fr (s + M) = M := by
  unfold ex fr; rcases hs with rfl | rfl <;> omega

theorem kind_norm {s E f : Nat} (hs : s = 0 ∨ s = 9223372036854775808) (hE : E ≤ 2046) (hf : f < 4503599627370496) : ex (s + E * 4503599627370496 + f) = E ∧ fr (s + E * 4503599627370496 + f) = f := by
  unfold ex fr; rcases hs with rfl | rfl <;> omega

theorem kind_ne {b : Nat} (h : ex b ≠ 2047) : kindI b ≠ 0 := by
  unfold kindI; rw [if_neg h]; split <;> (try split) <;> decide

theorem made_kind (s m : Nat) (e : Int) (hs : s = 0 ∨ s = 9223372036854775808) (hm : m < 18446744073709551616) : bitsR (makeS s m e).1 = (makeS s m e).1 ∧ (makeS s m e).1 < 18446744073709551616 := by
  have key : ∀ b, ex b ≠ 2047 → bitsR b = b := fun b h => by unfold bitsR; rw [if_neg (kind_ne h)]
  rcases makeS_cases s m e hm with ⟨_, h⟩ | ⟨_, h, _⟩ | ⟨_, _, _, r, M, _, _, ⟨hM, _, h⟩ | ⟨_, _, E, _, _, hE, h⟩⟩ <;> rw [h]
  · refine ⟨key _ ?_, by dsimp only; omega⟩
    have := (kind_small (M := 0) hs (by decide)).1
    rw [Nat.add_zero] at this; rw [this]; decide
  · exact ⟨key _ (by decide), by decide⟩
  · exact ⟨key _ (by rw [(kind_small hs hM).1]; decide), by dsimp only; omega⟩
  · exact ⟨key _ (by rw [(kind_norm hs hE (Nat.mod_lt _ (by decide))).1]; omega), by dsimp only; omega⟩

theorem sgn_or (neg : Bool) : sgn neg = 0 ∨ sgn neg = 9223372036854775808 := by cases neg <;> simp [sgn]

theorem make_parts (b : Nat) (hb : b < 18446744073709551616) (h : ex b ≠ 2047) : ∃ n : Nat, (partsR b).1 = n ∧ n < 18446744073709551616 ∧ (partsR b).2.2 = true ∧ makeR (negR b) n (partsR b).2.1 = (b, true) := by
  have hfr : fr b < 4503599627370496 := by unfold fr; omega
  have hex : ex b < 2047 := by have : ex b < 2048 := by unfold ex; omega
                               omega
  have hsb : b = sgn (negR b) + ex b * 4503599627370496 + fr b := by
    unfold negR sgn
    by_cases c : 9223372036854775808 ≤ b
    · rw [if_pos (decide_eq_true ⟨kind_ne h, c⟩)]; unfold ex fr; omega
    · rw [if_neg (by simp [c])]; unfold ex fr; omega
  have hs := sgn_or (negR b)
  unfold makeR
  unfold partsR; rw [if_neg h]
  by_cases c2 : magR b = 0
  · rw [if_pos c2]
    refine ⟨0, rfl, by decide, rfl, ?_⟩
    unfold makeS; rw [if_pos rfl]
    unfold magR at c2; split at c2
    · rename_i c; rw [c, c2] at hsb; rw [show sgn (negR b) = b by omega]
    · omega
  · rw [if_neg c2]
    have hm := mag_lt b
    obtain ⟨t1, t2⟩ := tz_spec (magR b) c2
    have hz0 : tz (magR b / 2 ^ tz (magR b)) = 0 := tz_odd t1
    have hml : magR b / 2 ^ tz (magR b) < 18446744073709551616 := Nat.lt_of_le_of_lt (Nat.div_le_self _ _) (Nat.lt_trans hm (by decide))
    refine ⟨_, rfl, hml, rfl, ?_⟩
    have hon : magR b / 2 ^ tz (magR b) ≠ 0 := fun e => by rw [e] at t1; omega
    have hlen := len_mul (tz (magR b)) hon
    rw [← t2] at hlen
    have hl53 : len (magR b) ≤ 53 := len_le.2 hm
    have hl52 : len (magR b) ≤ 52 ↔ magR b < 4503599627370496 := len_le (k := 52)
    have hn1 : 0 < len (magR b / 2 ^ tz (magR b)) := by unfold len; rw [if_neg hon]; omega
    have hexp : 1 ≤ expR b ∧ expR b ≤ 2046 := by unfold expR; split <;> omega
    have hme : (ex b = 0 ∧ expR b = 1 ∧ magR b = fr b) ∨ (ex b ≠ 0 ∧ expR b = ex b ∧ magR b = fr b + 4503599627370496) := by
      unfold expR magR; by_cases c : ex b = 0 <;> simp [c]
    rcases makeS_cases (sgn (negR b)) (magR b / 2 ^ tz (magR b)) (expR b - 1075 + (tz (magR b) : Nat)) hml with ⟨h0, _⟩ | ⟨_, _, hc⟩ | ⟨_, _, _, r, M, hM, hr, hh⟩
    · exact absurd h0 hon
    · exfalso
      rw [hz0, Nat.pow_zero, Nat.div_one] at hc
      omega
    · rw [hz0, Nat.pow_zero, Nat.div_one] at hM hr
      rw [hz0] at hh
      have hrt : ∀ (n T L : Nat) (x : Int), r = min (53 - n) (x - 1075 + (T : Nat) + ((0 : Nat) : Int) + 1074).toNat → L = n + T → L ≤ 53 → 1 ≤ x → (x = 1 ∨ 52 < L) → r = T := by intros; omega
      have hrt : r = tz (magR b) := hrt _ _ _ _ hr hlen hl53 hexp.1 (by rcases hme with ⟨a1, a2, a3⟩ | ⟨a1, a2, a3⟩ <;> omega)
      rw [hrt, ← t2] at hM
      rw [hM] at hh
      rcases hh with ⟨g1, g2, g3⟩ | ⟨g1, g2, E, g3, g4, g5, g6⟩
      · rw [g3]
        have : sgn (negR b) + magR b = b := by rcases hme with ⟨a1, a2, a3⟩ | ⟨a1, a2, a3⟩ <;> omega
        rw [this]
      · rw [g6]
        have : sgn (negR b) + E * 4503599627370496 + magR b % 4503599627370496 = b := by rcases hme with ⟨a1, a2, a3⟩ | ⟨a1, a2, a3⟩ <;> omega
        rw [this]

theorem parts_make {m : Nat} {e : Int} (hm : m < 18446744073709551616) (h0 : m ≠ 0) (hok : (makeR false m e).2 = true) :
    partsR (makeR false m e).1 = (((m / 2 ^ tz m : Nat) : Int), e + (tz m : Nat), true) ∧ -2000 ≤ e ∧ e ≤ 2000 := by
  unfold makeR at *
  have hs : sgn false = 0 := rfl
  obtain ⟨t1, t2⟩ := tz_spec m h0
  have hon : m / 2 ^ tz m ≠ 0 := fun e => by rw [e] at t1; omega
  rcases makeS_cases (sgn false) m e hm with ⟨h, _⟩ | ⟨_, hn, _⟩ | ⟨_, g1, g2, r, M, hM, hr, hh⟩
  · exact absurd h h0
  · rw [hn] at hok; cases hok
  · refine ⟨?_, g1, g2⟩
    obtain ⟨u1, u2⟩ := tz_mul (o := m / 2 ^ tz m) (k := r) t1
    rw [← hM] at u1 u2
    have hM0 : M ≠ 0 := by rw [hM]; exact Nat.mul_ne_zero hon (Nat.pos_iff_ne_zero.1 (Nat.two_pow_pos r))
    rcases hh with ⟨k1, k2, k3⟩ | ⟨k1, k2, E, k3, k4, k5, k6⟩
    · rw [k3]; dsimp only
      obtain ⟨x1, x2⟩ := kind_small (s := sgn false) (.inl rfl) k1
      have hmag : magR (sgn false + M) = M := by unfold magR; rw [if_pos x1, x2]
      unfold partsR; rw [if_neg (by rw [x1]; decide), hmag, if_neg hM0, u1, u2]
      unfold expR; rw [if_pos x1, show (1 : Int) - 1075 + (r : Nat) = e + (tz m : Nat) by omega]
    · rw [k6]; dsimp only
      obtain ⟨x1, x2⟩ := kind_norm (s := sgn false) (E := E) (f := M % 4503599627370496) (.inl rfl) k5 (Nat.mod_lt _ (by decide))
      have hmag : magR (sgn false + E * 4503599627370496 + M % 4503599627370496) = M := by unfold magR; rw [if_neg (by omega), x2]; omega
      unfold partsR; rw [if_neg (by rw [x1]; omega), hmag, if_neg hM0, u1, u2]
      unfold expR; rw [if_neg (by omega), x1, show ((E : Nat) : Int) - 1075 + (r : Nat) = e + (tz m : Nat) by omega]
end Go.Hp
