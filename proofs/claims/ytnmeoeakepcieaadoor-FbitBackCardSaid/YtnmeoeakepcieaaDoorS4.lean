/-
  What the functions of chapter 2 do: a float that is made, by the program and by the document.
-/
import Derived.Test.YtnmeoeakepcieaaDoorS3
namespace Go.Proofs.YtnmeoeakepcieaaDoor
set_option linter.unusedVariables false
set_option linter.unusedSimpArgs false
open Go.Hp Go.RowKit
attribute [local irreducible] Go.Hp.iteB

def sgn (neg : Bool) : Nat := if neg then 9223372036854775808 else 0
/-- The float that is made, or that there is none. -/
def makeS (s m : Nat) (e : Int) : Nat × Bool :=
  if m = 0 then (s, true) else
  let k := tz m
  let o := m / 2 ^ k
  let n := len o
  if e < -2000 ∨ 2000 < e ∨ 53 < n ∨ e + k < -1074 ∨ 1024 < e + k + n then (0, false) else
  let r := min (53 - n) (e + k + 1074).toNat
  if o * 2 ^ r < 4503599627370496 then (s + o * 2 ^ r, true) else (s + (e + k - r + 1075).toNat * 4503599627370496 + o * 2 ^ r % 4503599627370496, true)
def makeR (neg : Bool) (m : Nat) (e : Int) : Nat × Bool := makeS (sgn neg) m e

theorem or_add {a b i : Nat} (ha : a % 2 ^ i = 0) (hb : b < 2 ^ i) (hl : a < 18446744073709551616) (hl' : b < 18446744073709551616) : bits .or .u64 (a : Int) (b : Int) = ((a + b : Nat) : Int) := by
  rw [u64_or_nat _ _ hl hl']
  congr 1
  obtain ⟨q, rfl⟩ := Nat.dvd_of_mod_eq_zero ha
  exact (Nat.two_pow_add_eq_or_of_lt hb q).symm

theorem len_mul {o : Nat} (r : Nat) (h : o ≠ 0) : len (o * 2 ^ r) = len o + r := by
  have h1 : o * 2 ^ r / 2 ^ r = o := Nat.mul_div_cancel _ (Nat.two_pow_pos r)
  have := len_shift (n := o * 2 ^ r) r (by rw [h1]; exact h)
  rw [h1] at this; exact this

theorem F19_tail {s M : Nat} {E1 : Int} {h : Heap} {K : Nat → Bool → Heap → Prop} (hs : s = 0 ∨ s = 9223372036854775808) (hM : M < 2 ^ 53) (h1 : M < 4503599627370496 → K (s + M) true h)
    (h2 : 4503599627370496 ≤ M → 0 < E1 + 1075 ∧ E1 + 1075 ≤ 2046 ∧ -3000 ≤ E1 ∧ K (s + (E1 + 1075).toNat * 4503599627370496 + M % 4503599627370496) true h) :
    iteB (decide ((M : Int) < 4503599627370496)) (qcallP1 h (F9 (bits .or .u64 (s : Int) (M : Int)) h) fun x9 => K x9 true h)
      (0 ≤ (52 : Int) ∧ qcallP1 h (F9 (bits .or .u64 (bits .or .u64 (s : Int) (IntKind.u64.wrap (IntKind.u64.wrap (IntKind.i64.wrap (E1 + 1075)) * 2 ^ 52))) (bits .and .u64 (M : Int) 4503599627370495)) h) fun x10 => K x10 true h) := by
  have hs1 : s % 2 ^ 52 = 0 := by omega
  have hs2 : s % 2 ^ 63 = 0 := by omega
  have hs3 : s ≤ 9223372036854775808 := by omega
  refine iteB_intro (fun c => ?_) (fun c => ?_)
  · have c := of_decide_eq_true c
    rw [or_add (i := 52) hs1 (by omega) (by omega) (by omega)]
    exact qcallP1.of (s + M) (fun R hR => F9_of hR) (h1 (by omega))
  · have c := of_decide_eq_false c
    obtain ⟨g1, g2, g3, hk⟩ := h2 (by omega)
    obtain ⟨E, hE⟩ : ∃ E : Nat, E1 + 1075 = (E : Int) := ⟨(E1 + 1075).toNat, by omega⟩
    rw [hE] at g1 g2
    rw [hE, Int.toNat_natCast] at hk
    rw [hE, wrap_id (x := (E : Int)) (by omega) (by omega), wrap_nat (m := E) (by omega),
      show (E : Int) * 2 ^ 52 = ((E * 4503599627370496 : Nat) : Int) by simp, wrap_nat (by omega), and_low M (by omega),
      or_add (a := s) (b := E * 4503599627370496) (i := 63) hs2 (by omega) (by omega) (by omega),
      or_add (i := 52) (by omega) (by unfold fr; omega) (by omega) (by unfold fr; omega)]
    exact ⟨by decide, qcallP1.of (s + E * 4503599627370496 + fr M) (fun R hR => F9_of hR) hk⟩

theorem F19_of {neg : Bool} {m : Nat} {e : Int} {h : Heap} {K : Nat → Bool → Heap → Prop} (hm : m < 18446744073709551616) (ht : Tab h) (hk : K (makeR neg m e).1 (makeR neg m e).2 h) : F19 neg (m : Int) e h K := by
  unfold F19
  intro j12
  have hj12 : ∀ s : Nat, s = 0 ∨ s = 9223372036854775808 → K (makeS s m e).1 (makeS s m e).2 h → j12 (s : Int) := by
    intro s hs hk
    simp -zeta only [j12]
    clear j12
    unfold makeS at hk
    by_cases h0 : m = 0
    · rw [if_pos h0] at hk
      refine iteB_pos (by simp [h0]) ?_
      exact qcallP1.of s (fun R hR => F9_of hR) hk
    · rw [if_neg h0] at hk
      refine iteB_neg (by simp [h0]) ?_
      have t64 : tz m < 64 := tz_lt h0 hm
      refine qcallP1.of ((tz m : Nat) : Int) (fun R hR => F33_of h0 hm ht hR) ⟨by omega, ?_⟩
      have ho : m / 2 ^ tz m ≠ 0 := by have := (tz_spec m h0).1; intro e; rw [e] at this; omega
      have hol : m / 2 ^ tz m < 18446744073709551616 := Nat.lt_of_le_of_lt (Nat.div_le_self _ _) hm
      rw [show min ((tz m : Nat) : Int).toNat 64 = tz m by omega, fdiv_nat]
      simp only [] at hk
      generalize m / 2 ^ tz m = o at *
      generalize tz m = k at *
      have hn : len o ≤ 64 := len_le.2 hol
      have hn1 : 0 < len o := by unfold len; rw [if_neg ho]; omega
      have hlm := fun r => len_mul r ho
      have hll := @len_le
      refine qcallP1.of ((len o : Nat) : Int) (fun R hR => F35_of hol hR) ?_
      dsimp only
      have hno : (e < -2000 ∨ 2000 < e ∨ 53 < len o ∨ e + k < -1074 ∨ 1024 < e + k + len o) → K 0 false h := by
        intro hc; rw [if_pos hc] at hk; exact hk
      by_cases c1 : e < -2000
      · exact iteB_pos (decide_eq_true c1) (hno (.inl c1))
      refine iteB_neg (decide_eq_false c1) ?_
      by_cases c2 : e > 2000
      · exact iteB_pos (decide_eq_true c2) (hno (.inr (.inl c2)))
      refine iteB_neg (decide_eq_false c2) ?_
      by_cases c3 : (len o : Int) > 53
      · exact iteB_pos (decide_eq_true c3) (hno (.inr (.inr (.inl (by omega)))))
      refine iteB_neg (decide_eq_false c3) ?_
      rw [wrap_id (x := e + (k : Nat)) (by omega) (by omega)]
      by_cases c4 : e + (k : Nat) < -1074
      · exact iteB_pos (decide_eq_true c4) (hno (.inr (.inr (.inr (.inl c4)))))
      refine iteB_neg (decide_eq_false c4) ?_
      rw [wrap_id (x := e + (k : Nat) + (len o : Nat)) (by omega) (by omega)]
      by_cases c5 : e + (k : Nat) + (len o : Nat) > 1024
      · exact iteB_pos (decide_eq_true c5) (hno (.inr (.inr (.inr (.inr c5)))))
      refine iteB_neg (decide_eq_false c5) ?_
      rw [if_neg (by omega)] at hk
      rw [wrap_id (x := e + (k : Nat) - -1074) (by omega) (by omega), wrap_id (x := 53 - (len o : Nat)) (by omega) (by omega)]
      have er : (if e + (k : Nat) - -1074 < 53 - (len o : Nat) then e + (k : Nat) - -1074 else 53 - (len o : Nat)) = ((min (53 - len o) (e + k + 1074).toNat : Nat) : Int) := by split <;> omega
      rw [er]
      have hr : min (53 - len o) (e + k + 1074).toNat ≤ 53 - len o := Nat.min_le_left _ _
      have hr2 : ((min (53 - len o) (e + k + 1074).toNat : Nat) : Int) ≤ e + k + 1074 := by omega
      have hr3 : min (53 - len o) (e + k + 1074).toNat = 53 - len o ∨ ((min (53 - len o) (e + k + 1074).toNat : Nat) : Int) = e + k + 1074 := by omega
      generalize min (53 - len o) (e + k + 1074).toNat = r at *
      have hM : o * 2 ^ r < 2 ^ 53 := len_le.1 (by rw [hlm]; omega)
      have hMl : o * 2 ^ r < 4503599627370496 ↔ len o + r ≤ 52 := by rw [← hlm]; exact (len_le (k := 52)).symm
      have ew : IntKind.u64.wrap ((o : Int) * 2 ^ (min ((r : Nat) : Int).toNat 64)) = ((o * 2 ^ r : Nat) : Int) := by
        rw [show min ((r : Nat) : Int).toNat 64 = r by omega, show ((o : Int) * 2 ^ r) = ((o * 2 ^ r : Nat) : Int) by simp]
        exact wrap_nat (by omega)
      rw [ew]
      refine ⟨by omega, ?_⟩
      rw [wrap_id (x := e + (k : Nat) - (r : Nat)) (by omega) (by omega)]
      refine F19_tail hs hM (fun c => ?_) (fun c => ?_)
      · rw [if_pos c] at hk; exact hk
      · rw [if_neg (Nat.not_lt.2 c)] at hk
        have c7 : ¬ (len o + r ≤ 52) := fun x => absurd (hMl.2 x) (Nat.not_lt.2 c)
        exact ⟨by omega, by omega, by omega, hk⟩
  clear_value j12
  unfold makeR sgn at hk
  cases neg with
  | true => rw [iteB_true]; exact hj12 9223372036854775808 (.inr rfl) hk
  | false => rw [iteB_false]; exact hj12 0 (.inl rfl) hk
end Go.Proofs.YtnmeoeakepcieaaDoor
