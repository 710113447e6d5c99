/-
  What the functions of chapter 2 do (floats, bit by bit): the kinds, the parts.
-/
import Derived.Test.YtnmeoeakepcieaaDoorG0
import Derived.Test.YtnmeoeakepcieaaDoorB1
namespace Go.Proofs.YtnmeoeakepcieaaDoor
set_option linter.unusedVariables false
set_option linter.unusedSimpArgs false
open Go.Hp Go.RowKit

/-- The table of the last bits' places. -/
def dbt : List Int := [0, 1, 56, 2, 57, 49, 28, 3, 61, 58, 42, 50, 38, 29, 17, 4, 62, 47, 59, 36, 45, 43, 51, 22, 53, 39, 33, 30, 24, 18, 12, 5, 63, 55, 48, 27, 60, 41, 37, 16, 46, 35, 44, 21, 52, 32, 23, 11, 54, 26, 40, 15, 34, 20, 31, 10, 25, 14, 19, 9, 13, 8, 7, 6]
def Tab (h : Heap) : Prop := ∀ i, i < 64 → cell h ⟨1, i, none⟩ = some (.int .u8 (dbt.getD i 0))
theorem Tab.ext {h h' : Heap} (t : Tab h) (e : Ext h h') : Tab h' := fun i hi => e.cell' (t i hi)

set_option maxRecDepth 100000 in
theorem dbt_at : ∀ t : Nat, t < 64 → 2 ^ t * 285870213051353865 % 18446744073709551616 / 288230376151711744 < 64 ∧
    dbt.getD (2 ^ t * 285870213051353865 % 18446744073709551616 / 288230376151711744) 0 = (t : Int) := by decide +kernel

theorem F33_of {a : Nat} {h : Heap} {K : Int → Heap → Prop} (h0 : a ≠ 0) (hl : a < 18446744073709551616) (ht : Tab h) (hk : K (tz a : Nat) h) : F33 (a : Int) h K := by
  unfold F33
  have e0 : IntKind.u64.wrap (0 - (a : Int)) = ((18446744073709551616 - a : Nat) : Int) := by rw [wrap_u64]; omega
  have e1 : bits .and .u64 (a : Int) (IntKind.u64.wrap (0 - (a : Int))) = ((2 ^ tz a : Nat) : Int) := by
    rw [e0, u64_and_nat _ _ hl (by omega), show (18446744073709551616 : Nat) = 2 ^ 64 by decide, and_neg 64 a h0 hl]
  have t64 : tz a < 64 := tz_lt h0 hl
  obtain ⟨d1, d2⟩ := dbt_at _ t64
  rw [e1]
  generalize 2 ^ tz a = p at *
  have e2 : (IntKind.u64.wrap ((p : Int) * 285870213051353865)).fdiv (2 ^ 58) = ((p * 285870213051353865 % 18446744073709551616 / 288230376151711744 : Nat) : Int) := by
    rw [wrap_u64, Int.fdiv_eq_ediv_of_nonneg _ (by decide)]; simp only [Int.natCast_ediv, Int.natCast_emod, Int.natCast_mul]; rfl
  rw [e2]
  generalize p * 285870213051353865 % 18446744073709551616 / 288230376151711744 = i at *
  have c1 : (0 : Int) ≤ (i : Int) ∧ (i : Int) < 64 := by omega
  have c2 : cell h ((⟨1, 0, none⟩ : Addr).add ((i : Int).toNat * 1)) = some (.int .u8 (dbt.getD i 0)) := by
    rw [add_mk, show 0 + (i : Int).toNat * 1 = i by omega]; exact ht i d1
  have c3 : IntKind.i64.wrap (dbt.getD i 0) = ((tz a : Nat) : Int) := by rw [d2, wrap_id (by omega) (by omega)]
  have c4 : (((a : Nat) : Int) == 0) = false := by simp; omega
  generalize ((a : Nat) : Int) = z at *
  exact iteB_neg c4 ⟨by decide, c1, dbt.getD i 0, c2, c3.symm ▸ hk⟩

theorem kind_nan (b : Nat) : (FloatKind.f64.format.order b b != some .eq) = decide (kindI b = 0) := by
  rw [order_self]; by_cases h : kindI b = 0 <;> simp [h]
theorem kind_num (b : Nat) : (FloatKind.f64.format.order b b == some .eq) = decide (kindI b ≠ 0) := by
  rw [order_self]; by_cases h : kindI b = 0 <;> simp [h]

theorem F13_of {b : Nat} {h : Heap} {K : Int → Heap → Prop} (hb : b < 18446744073709551616) (hk : K (kindI b) h) : F13 b h K := by
  unfold F13
  have hx : b % 9223372036854775808 / 4503599627370496 = ex b := by unfold ex; omega
  have hf : b % 9223372036854775808 % 4503599627370496 = fr b := by unfold fr; omega
  rw [kind_nan, andNot_top b hb, fdiv_nat, show (2 : Nat) ^ 52 = 4503599627370496 by decide, hx]
  have e1 : (((ex b : Nat) : Int) == 2047) = decide (ex b = 2047) := by by_cases h : ex b = 2047 <;> simp [h]; omega
  have e2 : (((ex b : Nat) : Int) == 0) = decide (ex b = 0) := by by_cases h : ex b = 0 <;> simp [h]
  have e3 : (((b % 9223372036854775808 : Nat) : Int) == 0) = decide (ex b = 0 ∧ fr b = 0) := by
    by_cases h : ex b = 0 ∧ fr b = 0
    · simp only [h]; simp; omega
    · rw [decide_eq_false h]; simp only [beq_eq_false_iff_ne, ne_eq]; omega
  rw [e1, e2, e3]
  simp only [iteB_decide]
  have e4 : ∀ p q : Prop, (p ∧ q) → (p ∧ q) := fun _ _ h => h
  by_cases c0 : kindI b = 0
  · rw [if_pos c0]; rw [c0] at hk; exact hk
  · rw [if_neg c0]; unfold kindI at hk c0
    refine ⟨by decide, ?_⟩
    by_cases c1 : ex b = 2047
    · rw [if_pos c1]; rw [if_pos c1] at hk c0
      by_cases c2 : fr b = 0
      · rw [if_pos c2] at hk; exact hk
      · rw [if_neg c2] at c0; exact absurd rfl c0
    · rw [if_neg c1]; rw [if_neg c1] at hk
      by_cases c2 : ex b = 0
      · rw [if_pos c2] at hk
        by_cases c3 : fr b = 0
        · rw [if_pos ⟨c2, c3⟩]; rw [if_pos c3] at hk; exact hk
        · rw [if_neg (fun x => c3 x.2), if_pos c2]; rw [if_neg c3] at hk; exact ⟨by decide, hk⟩
      · rw [if_neg (fun x => c2 x.1), if_neg c2]; rw [if_neg c2] at hk; exact ⟨by decide, hk⟩

theorem F14_of {b : Nat} {h : Heap} {K : Int → Heap → Prop} (hb : b < 18446744073709551616) (hk : K (kindI b) h) : F14 (b : Int) h K := by
  unfold F14
  have hx : b / 4503599627370496 % 2048 = ex b := rfl
  rw [fdiv_nat, show (2 : Nat) ^ 52 = 4503599627370496 by decide, and_2047 _ (by omega), hx, and_low b hb]
  have e1 : (((ex b : Nat) : Int) == 2047) = decide (ex b = 2047) := by by_cases h : ex b = 2047 <;> simp [h]; omega
  have e2 : (((ex b : Nat) : Int) == 0) = decide (ex b = 0) := by by_cases h : ex b = 0 <;> simp [h]
  have e3 : (((fr b : Nat) : Int) == 0) = decide (fr b = 0) := by by_cases h : fr b = 0 <;> simp [h]
  have e4 : (((fr b : Nat) : Int) != 0) = decide (fr b ≠ 0) := by by_cases h : fr b = 0 <;> simp [h]
  rw [e1, e2, e3, e4]
  simp only [iteB_decide]
  unfold kindI at hk
  refine ⟨by decide, ?_⟩
  by_cases c1 : ex b = 2047
  · by_cases c2 : fr b = 0 <;> simp [c1, c2] at hk ⊢ <;> exact hk
  · by_cases c2 : ex b = 0
    · by_cases c3 : fr b = 0 <;> simp [c2, c3] at hk ⊢ <;> exact hk
    · simp [c1, c2] at hk ⊢; exact hk

theorem F9_of {b : Nat} {h : Heap} {K : Nat → Heap → Prop} (hk : K b h) : F9 (b : Int) h K := by unfold F9; simpa using hk

/-- The bits that are told: of what is no number, always the same. -/
def bitsR (b : Nat) : Int := if kindI b = 0 then 9221120237041090560 else b
theorem F11_of {b : Nat} {h : Heap} {K : Int → Heap → Prop} (hk : K (bitsR b) h) : F11 b h K := by
  unfold F11; rw [kind_nan, iteB_decide]; unfold bitsR at hk
  by_cases c : kindI b = 0
  · rw [if_pos c] at hk ⊢; exact hk
  · rw [if_neg c] at hk ⊢; exact hk
theorem F12_of {b : Nat} {h : Heap} {K : Int → Heap → Prop} (hb : b < 18446744073709551616) (hk : K (bitsR b) h) : F12 (b : Int) h K := by
  unfold F12; refine qcallP1.of (kindI b) (fun R hR => F14_of hb hR) ?_
  unfold bitsR at hk
  by_cases c : kindI b = 0
  · rw [if_pos c] at hk; exact iteB_pos (by simp [c]) hk
  · rw [if_neg c] at hk; exact iteB_neg (by simp [c]) hk

def negR (b : Nat) : Bool := decide (kindI b ≠ 0 ∧ 9223372036854775808 ≤ b)
theorem F15_of {b : Nat} {h : Heap} {K : Bool → Heap → Prop} (hb : b < 18446744073709551616) (hk : K (negR b) h) : F15 b h K := by
  unfold F15; rw [kind_num, iteB_decide]; unfold negR at hk
  by_cases c : kindI b = 0
  · rw [if_neg (by simp [c])]; simpa [c] using hk
  · rw [if_pos c]
    refine qcallP1.of (decide (9223372036854775808 ≤ b)) (fun R hR => ?_) (by simpa [c] using hk)
    unfold F34
    rw [wrap_i64_eq]
    have : decide (((b : Int) + 9223372036854775808) % 18446744073709551616 - 9223372036854775808 < 0) = decide (9223372036854775808 ≤ b) := decide_eq_decide.2 (by omega)
    first | (rw [this]; exact hR) | (simp only [this]; exact hR)
theorem F16_of {b : Nat} {h : Heap} {K : Bool → Heap → Prop} (hb : b < 18446744073709551616) (hk : K (negR b) h) : F16 (b : Int) h K := by
  unfold F16; refine qcallP1.of (kindI b) (fun R hR => F14_of hb hR) ?_
  unfold negR at hk
  by_cases c : kindI b = 0
  · exact iteB_neg (by simp [c]) (by simpa [c] using hk)
  · refine iteB_pos (by simp [c]) ⟨by decide, ?_⟩
    rw [fdiv_nat, show (2 : Nat) ^ 63 = 9223372036854775808 by decide]
    have : (((b / 9223372036854775808 : Nat) : Int) == 1) = decide (9223372036854775808 ≤ b) := by
      by_cases c : 9223372036854775808 ≤ b
      · simp only [c]; simp; omega
      · rw [decide_eq_false c]; simp only [beq_eq_false_iff_ne, ne_eq]; omega
    rw [this]; simpa [c] using hk

/-- The digits of a float that is a number, and its power of two ahead of the shift. -/
def magR (b : Nat) : Nat := if ex b = 0 then fr b else fr b + 4503599627370496
def expR (b : Nat) : Int := if ex b = 0 then 1 else ex b
def partsR (b : Nat) : Int × Int × Bool :=
  if ex b = 2047 then (0, 0, false) else if magR b = 0 then (0, 0, true) else (((magR b / 2 ^ tz (magR b) : Nat) : Int), expR b - 1075 + (tz (magR b) : Nat), true)

theorem mag_lt (b : Nat) : magR b < 9007199254740992 := by unfold magR fr; split <;> omega
theorem kind_01 {b : Nat} (h : ex b = 2047) : kindI b = 0 ∨ kindI b = 1 := by unfold kindI; rw [if_pos h]; split <;> simp
theorem kind_2 {b : Nat} (h : ex b ≠ 2047) (h0 : magR b = 0) : kindI b = 2 := by
  unfold kindI; unfold magR at h0; rw [if_neg h]; split at h0
  · rename_i c; rw [if_pos c, if_pos h0]
  · omega
theorem kind_34 {b : Nat} (h : ex b ≠ 2047) (h0 : magR b ≠ 0) : (kindI b = 3 ∧ ex b = 0) ∨ (kindI b = 4 ∧ ex b ≠ 0) := by
  unfold kindI; unfold magR at h0; rw [if_neg h]; split at h0
  · rename_i c; rw [if_pos c, if_neg h0]; exact .inl ⟨rfl, c⟩
  · rename_i c; rw [if_neg c]; exact .inr ⟨rfl, c⟩

theorem F10_of {b : Nat} {h : Heap} {K : Int → Int → Bool → Heap → Prop} (hb : b < 18446744073709551616) (ht : Tab h) (hk : K (partsR b).1 (partsR b).2.1 (partsR b).2.2 h) : F10 b h K := by
  have hx : b % 9223372036854775808 / 4503599627370496 = ex b := by unfold ex; omega
  have hf : fr (b % 9223372036854775808) = fr b := by unfold fr; omega
  have hfr : fr b < 4503599627370496 := by unfold fr; omega
  have hex : ex b < 2048 := by unfold ex; omega
  have e1 : bits .andNot .u64 (b : Int) 9223372036854775808 = ((b % 9223372036854775808 : Nat) : Int) := andNot_top b hb
  have e2 : bits .and .u64 ((b % 9223372036854775808 : Nat) : Int) 4503599627370495 = (fr b : Int) := by rw [and_low _ (by omega), hf]
  have e3 : ((b % 9223372036854775808 : Nat) : Int).fdiv (2 ^ 52) = (ex b : Int) := by rw [fdiv_nat, show (2 : Nat) ^ 52 = 4503599627370496 by decide, hx]
  unfold F10
  rw [e1, e2, e3, or_top hfr]
  refine ⟨by decide, ?_⟩
  have hj : ∀ (m : Nat) (e : Int), m ≠ 0 → m < 9007199254740992 → 0 ≤ e → e < 3000 → K ((m / 2 ^ tz m : Nat) : Int) (e - 1075 + (tz m : Nat)) true h →
      qcallP1 h (F33 (m : Int) h) fun x6 => (0 ≤ x6 ∧ (K ((m : Int).fdiv (2 ^ (min x6.toNat 64))) (IntKind.i64.wrap ((IntKind.i64.wrap (e - 1075)) + x6)) true h)) := by
    intro m e h0 hm g1 g2 hk
    have t64 : tz m < 64 := tz_lt h0 (Nat.lt_trans hm (by decide))
    refine qcallP1.of ((tz m : Nat) : Int) (fun R hR => F33_of h0 (by omega) ht hR) ⟨by omega, ?_⟩
    rw [fdiv_nat, show min ((tz m : Nat) : Int).toNat 64 = tz m by omega, wrap_id (x := e - 1075) (by omega) (by omega), wrap_id (by omega) (by omega)]
    exact hk
  intro j7
  have hj7 : ∀ (m : Nat) (e : Int), m ≠ 0 → m < 9007199254740992 → 0 ≤ e → e < 3000 → K ((m / 2 ^ tz m : Nat) : Int) (e - 1075 + (tz m : Nat)) true h → j7 (m : Int) e := hj
  clear_value j7
  refine qcallP1.of (kindI b) (fun R hR => F13_of hb hR) ?_
  rw [wrap_id (x := (ex b : Int)) (by omega) (by omega)]
  unfold partsR at hk
  by_cases c1 : ex b = 2047
  · rw [if_pos c1] at hk
    rcases kind_01 c1 with e | e <;> rw [e] <;> exact hk
  · rw [if_neg c1] at hk
    by_cases c2 : magR b = 0
    · rw [if_pos c2] at hk; rw [kind_2 c1 c2]; exact hk
    · rw [if_neg c2] at hk
      have hm := mag_lt b
      rcases kind_34 c1 c2 with ⟨e, e0⟩ | ⟨e, e0⟩
      · rw [e]
        unfold magR expR at hk; rw [if_pos e0, if_pos e0] at hk
        unfold magR at c2; rw [if_pos e0] at c2
        exact hj7 _ _ c2 (by omega) (by decide) (by decide) hk
      · rw [e]
        unfold magR expR at hk; rw [if_neg e0, if_neg e0] at hk
        exact hj7 _ _ (by omega) (by omega) (by omega) (by omega) hk
end Go.Proofs.YtnmeoeakepcieaaDoor
