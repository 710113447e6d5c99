/-
  Floats in order: where a float stands, and what the comparisons say.
-/
import Derived.Test.YtcmbgiekffgcoaaG2
import Derived.Test.YtcmbgiekffgcoaaB1
import Derived.Test.YtcmbgiekffgcoaaRd
namespace Go.Proofs.Ytcmbgiekffgcoaa
set_option linter.unusedVariables false
set_option linter.unusedSimpArgs false
open Go.Hp Go.RowKit

theorem kind_nan (b : Nat) : (FloatKind.f64.format.order b b != some .eq) = decide (kindI b = 0) := by
  rw [order_self]; by_cases h : kindI b = 0 <;> simp [h]
theorem Kind_of {b : Nat} {h : Heap} {K : Int → Heap → Prop} (hb : b < 18446744073709551616) (hk : K (kindI b) h) : straitref02_Kind (b : Int) h K := by
  unfold straitref02_Kind
  have hx : b / 4503599627370496 % 2048 = ex b := rfl
  rw [fdiv_nat, show (2 : Nat) ^ 52 = 4503599627370496 by decide, and_2047 _ (by omega), hx, and_low b hb]
  have e1 : (((ex b : Nat) : Int) == 2047) = decide (ex b = 2047) := by by_cases h : ex b = 2047 <;> simp [h]; omega
  have e2 : (((ex b : Nat) : Int) == 0) = decide (ex b = 0) := by by_cases h : ex b = 0 <;> simp [h]
  have e3 : (((fr b : Nat) : Int) == 0) = decide (fr b = 0) := by by_cases h : fr b = 0 <;> simp [h]
  have e4 : (((fr b : Nat) : Int) != 0) = decide (fr b ≠ 0) := by by_cases h : fr b = 0 <;> simp [h]
  simp only [e1, e2, e3, e4, iteB_decide]
  unfold kindI at hk
  refine ⟨by decide, ?_⟩
  by_cases c1 : ex b = 2047
  · by_cases c2 : fr b = 0 <;> simp [c1, c2] at hk ⊢ <;> exact hk
  · by_cases c2 : ex b = 0
    · by_cases c3 : fr b = 0 <;> simp [c2, c3] at hk ⊢ <;> exact hk
    · simp [c1, c2] at hk ⊢; exact hk

/-- The bits that are told: of what is no number, always the same. -/
def bitsR (b : Nat) : Nat := if kindI b = 0 then 9221120237041090560 else b
theorem Bits_of {b : Nat} {h : Heap} {K : Int → Heap → Prop} (hk : K (bitsR b) h) : fbit_Bits b h K := by
  unfold fbit_Bits; rw [kind_nan, iteB_decide]; unfold bitsR at hk
  by_cases c : kindI b = 0
  · rw [if_pos c] at hk ⊢; exact hk
  · rw [if_neg c] at hk ⊢; exact hk
theorem RBits_of {b : Nat} {h : Heap} {K : Int → Heap → Prop} (hb : b < 18446744073709551616) (hk : K (bitsR b) h) : straitref02_Bits (b : Int) h K := by
  unfold straitref02_Bits; refine qcallP1.of (kindI b) (fun R hR => Kind_of hb hR) ?_
  unfold bitsR at hk
  by_cases c : kindI b = 0
  · rw [if_pos c] at hk; exact iteB_pos (by simp [c]) hk
  · rw [if_neg c] at hk; exact iteB_neg (by simp [c]) hk
theorem FOf_of {b : Nat} {h : Heap} {K : Nat → Heap → Prop} (hk : K b h) : fbit_Of (b : Int) h K := by unfold fbit_Of; simpa using hk

/-- Where a float stands in the order. -/
def pl (b : Nat) : Int := if kindI b = 0 then 9223372036854775807 else if b < 9223372036854775808 then b else 9223372036854775807 - b
theorem at_of {b : Nat} {h : Heap} {K : Int → Heap → Prop} (hb : b < 18446744073709551616) (hk : K (pl b) h) : forder_at b h K := by
  unfold forder_at; rw [kind_nan, iteB_decide]; unfold pl at hk
  by_cases c : kindI b = 0
  · rw [if_pos c] at hk ⊢; exact hk
  · rw [if_neg c] at hk ⊢
    refine qcallP1.of (b : Int) (fun R hR => Bits_of (by rw [bitsR, if_neg c]; exact hR)) ?_
    by_cases c2 : b < 9223372036854775808
    · rw [if_pos c2] at hk
      rw [wrap64 (by omega) (by omega)]
      exact iteB_neg (decide_eq_false (by omega)) hk
    · rw [if_neg c2] at hk
      have e : IntKind.i64.wrap (b : Int) = (b : Int) - 18446744073709551616 := by rw [wrap_i64_eq]; omega
      rw [e]
      refine iteB_pos (decide_eq_true (by omega)) ?_
      rw [wrap64 (x := -9223372036854775808 - ((b : Int) - 18446744073709551616)) (by omega) (by omega)]
      show K (IntKind.i64.wrap (-9223372036854775808 - ((b : Int) - 18446744073709551616) - 1)) h
      rw [wrap64 (by omega) (by omega), show (-9223372036854775808 : Int) - (b - 18446744073709551616) - 1 = 9223372036854775807 - b by omega]
      exact hk
def cmpI (x y : Int) : Int := if x < y then -1 else if x > y then 1 else 0
theorem cmpI_lt {x y : Int} : cmpI x y < 0 ↔ x < y := by unfold cmpI; split <;> (try split) <;> omega
theorem cmpI_gt {x y : Int} : cmpI x y > 0 ↔ x > y := by unfold cmpI; split <;> (try split) <;> omega
theorem cmpI_eq {x y : Int} : cmpI x y = 0 ↔ x = y := by unfold cmpI; split <;> (try split) <;> omega
theorem cmpI_neg {x y : Int} : cmpI y x = - cmpI x y := by unfold cmpI; split <;> split <;> (try split) <;> omega
theorem cmpI_bd (x y : Int) : -1 ≤ cmpI x y ∧ cmpI x y ≤ 1 := by unfold cmpI; split <;> (try split) <;> omega
theorem pcmp_of {x y : Int} {h : Heap} {K : Int → Heap → Prop} (hk : K (cmpI x y) h) : forder_place_cmp x y h K := by
  unfold forder_place_cmp
  refine qcallP1.of (cmpI x y) (fun R hR => ?_) hk
  unfold cmp_Compare_forder_place
  refine qcallP1.of false (fun R hR => by unfold cmp_isNaN_forder_place; simpa using hR) ?_
  refine qcallP1.of false (fun R hR => by unfold cmp_isNaN_forder_place; simpa using hR) ?_
  simp only [iteB_false, iteB_decide]
  unfold cmpI at hR
  by_cases c : x < y
  · rw [if_pos c] at hR ⊢; exact hR
  · rw [if_neg c] at hR ⊢; by_cases c2 : x > y
    · rw [if_pos c2] at hR ⊢; exact hR
    · rw [if_neg c2] at hR ⊢; exact hR
theorem pback_of {x y : Int} {h : Heap} {K : Int → Heap → Prop} (hk : K (cmpI y x) h) : forder_place_back x y h K := by
  unfold forder_place_back
  refine qcallP1.of (cmpI x y) (fun R hR => pcmp_of hR) ?_
  have := cmpI_bd x y
  rw [wrap64 (by omega) (by omega), show 0 - cmpI x y = cmpI y x by rw [cmpI_neg (x := x)]; omega]; exact hk
theorem Cmp_of {a b : Nat} {h : Heap} {K : Int → Heap → Prop} (ha : a < 18446744073709551616) (hb : b < 18446744073709551616) (hk : K (cmpI (pl a) (pl b)) h) : forder_Cmp a b h K := by
  unfold forder_Cmp
  exact qcallP1.of (pl a) (fun R hR => at_of ha hR) (qcallP1.of (pl b) (fun R hR => at_of hb hR) (qcallP1.of (cmpI (pl a) (pl b)) (fun R hR => pcmp_of hR) hk))
theorem Less_of {a b : Nat} {h : Heap} {K : Bool → Heap → Prop} (ha : a < 18446744073709551616) (hb : b < 18446744073709551616) (hk : K (decide (pl a < pl b)) h) : forder_Less a b h K := by
  unfold forder_Less
  refine qcallP1.of (cmpI (pl a) (pl b)) (fun R hR => Cmp_of ha hb hR) ?_
  rw [decide_eq_decide.2 cmpI_lt]; exact hk
theorem Eq_of {a b : Nat} {h : Heap} {K : Bool → Heap → Prop} (ha : a < 18446744073709551616) (hb : b < 18446744073709551616) (hk : K (decide (pl a = pl b)) h) : forder_Count_c1 a b h K := by
  unfold forder_Count_c1
  refine qcallP1.of (cmpI (pl a) (pl b)) (fun R hR => Cmp_of ha hb hR) ?_
  have : (cmpI (pl a) (pl b) == 0) = decide (pl a = pl b) := by rw [← decide_eq_decide.2 (cmpI_eq (x := pl a) (y := pl b))]; rfl
  rw [this]; exact hk
theorem pl_bd {b : Nat} (hb : b < 18446744073709551616) : -9223372036854775808 ≤ pl b ∧ pl b ≤ 9223372036854775807 := by unfold pl; split <;> (try split) <;> omega
theorem key_of {b : Nat} {h : Heap} {K : Int → Heap → Prop} (hb : b < 18446744073709551616) (hk : K (pl b + 9223372036854775808) h) : straitref03_key (b : Int) h K := by
  unfold straitref03_key
  refine qcallP1.of (kindI b) (fun R hR => Kind_of hb hR) ?_
  unfold pl at hk
  by_cases c : kindI b = 0
  · rw [if_pos c] at hk; exact iteB_pos (by simp [c]) hk
  · rw [if_neg c] at hk
    refine iteB_neg (by simp [c]) ⟨by decide, ?_⟩
    rw [fdiv_nat, show (2 : Nat) ^ 63 = 9223372036854775808 by decide]
    unfold bindV
    by_cases c2 : b < 9223372036854775808
    · rw [if_pos c2] at hk
      rw [show b / 9223372036854775808 = 0 by omega]
      refine iteB_neg (by decide) ?_
      rw [wrap_u64, show (9223372036854775808 + (b : Int)) % 18446744073709551616 = b + 9223372036854775808 by omega]; exact hk
    · rw [if_neg c2] at hk
      rw [show b / 9223372036854775808 = 1 by omega]
      refine iteB_pos (by decide) ?_
      rw [wrap_u64, show (18446744073709551615 - (b : Int)) % 18446744073709551616 = 9223372036854775807 - b + 9223372036854775808 by omega]; exact hk
theorem cmpI_add (x y c : Int) : cmpI (x + c) (y + c) = cmpI x y := by unfold cmpI; split <;> split <;> (try split) <;> (try split) <;> omega
theorem RCmp_of {a b : Nat} {h : Heap} {K : Int → Heap → Prop} (ha : a < 18446744073709551616) (hb : b < 18446744073709551616) (hk : K (cmpI (pl a) (pl b)) h) : straitref03_Cmp (a : Int) (b : Int) h K := by
  unfold straitref03_Cmp
  refine qcallP1.of _ (fun R hR => key_of ha hR) (qcallP1.of _ (fun R hR => key_of hb hR) ?_)
  rw [← cmpI_add _ _ 9223372036854775808] at hk
  generalize pl a + 9223372036854775808 = x at *
  generalize pl b + 9223372036854775808 = y at *
  simp only [iteB_decide]
  unfold cmpI at hk
  by_cases c : x < y
  · rw [if_pos c] at hk ⊢; exact hk
  · rw [if_neg c] at hk ⊢; by_cases c2 : x > y
    · rw [if_pos c2] at hk ⊢; exact hk
    · rw [if_neg c2] at hk ⊢; exact hk

/-! ### What is no number is one number -/
/-- Is it a number, or the one that stands for all that are none? -/
def canon (b : Nat) : Nat := if kindI b = 0 then 9221120237041090561 else b
theorem kind_canon0 : kindI 9221120237041090561 = 0 := by decide
theorem kind_bits0 : kindI 9221120237041090560 = 0 := by decide
theorem canon_lt {b : Nat} (h : b < 18446744073709551616) : canon b < 18446744073709551616 := by unfold canon; split <;> omega
theorem pl_canon (b : Nat) : pl (canon b) = pl b := by
  unfold canon; split
  · rename_i h; rw [pl, if_pos kind_canon0, pl, if_pos h]
  · rfl
theorem pl_bits (b : Nat) : pl (bitsR b) = pl b := by
  unfold bitsR; split
  · rename_i h; rw [pl, if_pos kind_bits0, pl, if_pos h]
  · rfl
theorem bits_canon (b : Nat) : bitsR (canon b) = bitsR b := by
  unfold canon; split
  · rename_i h; rw [bitsR, if_pos kind_canon0, bitsR, if_pos h]
  · rfl
theorem ninf {b : Nat} (h : kindI b ≠ 0) (hb : b < 18446744073709551616) : pl b ≠ 9223372036854775807 := by
  intro e
  rw [pl, if_neg h] at e
  split at e
  · have : b = 9223372036854775807 := by omega
    subst this; exact h (by decide)
  · omega
theorem pl_inj {a b : Nat} (ha : a < 18446744073709551616) (hb : b < 18446744073709551616) (h : pl a = pl b) : canon a = canon b := by
  unfold canon
  by_cases ca : kindI a = 0 <;> by_cases cb : kindI b = 0
  · rw [if_pos ca, if_pos cb]
  · exact absurd (by rw [← h, pl, if_pos ca]) (ninf cb hb)
  · exact absurd (by rw [h, pl, if_pos cb]) (ninf ca ha)
  · rw [if_neg ca, if_neg cb]
    rw [pl, if_neg ca, pl, if_neg cb] at h
    split at h <;> split at h <;> omega
theorem canon_canon (b : Nat) : canon (canon b) = canon b := by
  unfold canon; split
  · rw [if_pos kind_canon0]
  · rfl
theorem bits_inj {a b : Nat} (ha : a < 18446744073709551616) (hb : b < 18446744073709551616) (h : pl a = pl b) : bitsR a = bitsR b := by
  rw [← bits_canon a, ← bits_canon b, pl_inj ha hb h]
end Go.Proofs.Ytcmbgiekffgcoaa
