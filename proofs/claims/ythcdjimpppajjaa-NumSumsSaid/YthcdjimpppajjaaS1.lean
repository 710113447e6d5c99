/-
  What the functions of this seat do.
-/
import Derived.Test.YthcdjimpppajjaaG0
import Derived.Test.YthcdjimpppajjaaB1
namespace Go.Proofs.Ythcdjimpppajjaa
set_option linter.unusedVariables false
set_option linter.unusedSimpArgs false
open Go.Hp Go.RowKit

theorem F12_of {a b : Int} {h : Heap} {K : Int → Bool → Heap → Prop} (ha : fits a) (hb : fits b) (hk : K (addR a b).1 (addR a b).2 h) : F12 a b h K := by
  unfold F12
  rw [add_over ha hb]
  unfold addR at hk
  by_cases hf : fits (a + b)
  · rw [if_pos hf] at hk; simp only [hf, decide_true, Bool.not_true, iteB_false]
    unfold fits at hf; rw [wrap_id (by omega) (by omega)]; exact hk
  · rw [if_neg hf] at hk; simp only [hf, decide_false, Bool.not_false, iteB_true]; exact hk

theorem F13_of {a b : Int} {h : Heap} {K : Int → Bool → Heap → Prop} (ha : fits a) (hb : fits b) (hk : K (subR a b).1 (subR a b).2 h) : F13 a b h K := by
  unfold F13
  rw [sub_over ha hb]
  unfold subR at hk
  by_cases hf : fits (a - b)
  · rw [if_pos hf] at hk; simp only [hf, decide_true, Bool.not_true, iteB_false]
    unfold fits at hf; rw [wrap_id (by omega) (by omega)]; exact hk
  · rw [if_neg hf] at hk; simp only [hf, decide_false, Bool.not_false, iteB_true]; exact hk

theorem F18_of {a b : Int} {h : Heap} {K : Int → Int → Heap → Prop} (ha : 0 ≤ a) (ha' : a < 18446744073709551616) (hb : 0 ≤ b) (hb' : b < 18446744073709551616)
    (hk : K (a * b / 18446744073709551616) (a * b % 18446744073709551616) h) : F18 a b h K := by
  have h1 := mul_hi ha ha' hb hb'
  simp only [] at h1
  unfold F18
  rw [h1, wrap_u64 (a * b)]
  exact ⟨by decide, by decide, by decide, by decide, by decide, hk⟩

/-- A number without its sign. -/
def absI (a : Int) : Int := if a < 0 then -a else a

theorem F19_of {a : Int} {h : Heap} {K : Int → Heap → Prop} (ha : fits a) (hk : K (absI a) h) : F19 a h K := by
  unfold F19
  unfold absI at hk
  unfold fits at ha
  rw [iteB_decide]
  by_cases hn : a < 0
  · rw [if_pos hn] at hk ⊢; rw [wrap_u64, wrap_u64, show (0 - a % 18446744073709551616) % 18446744073709551616 = -a by omega]; exact hk
  · rw [if_neg hn] at hk ⊢; rw [wrap_u64, show a % 18446744073709551616 = a by omega]; exact hk

theorem abs_mul (a b : Int) : absI a * absI b = absI (a * b) := by
  unfold absI
  rcases Int.lt_trichotomy a 0 with ha | ha | ha
  · rcases Int.lt_trichotomy b 0 with hb | hb | hb
    · have := Int.mul_pos_of_neg_of_neg ha hb
      rw [if_pos ha, if_pos hb, if_neg (by omega), Int.neg_mul_neg]
    · subst hb; simp
    · have := Int.mul_neg_of_neg_of_pos ha hb
      rw [if_pos ha, if_neg (by omega), if_pos this, Int.neg_mul]
  · subst ha; simp
  · rcases Int.lt_trichotomy b 0 with hb | hb | hb
    · have := Int.mul_neg_of_pos_of_neg ha hb
      rw [if_neg (by omega), if_pos hb, if_pos this, Int.mul_neg]
    · subst hb; simp
    · have := Int.mul_pos ha hb
      rw [if_neg (by omega), if_neg (by omega), if_neg (by omega)]

theorem mul_sign {a b : Int} : (a < 0 ↔ b < 0) → 0 ≤ a * b := by
  intro h
  rcases Int.lt_trichotomy a 0 with ha | ha | ha
  · exact Int.le_of_lt (Int.mul_pos_of_neg_of_neg ha (h.1 ha))
  · subst ha; simp
  · exact Int.mul_nonneg (by omega) (by have := mt h.2; omega)
theorem mul_sign' {a b : Int} : ¬ (a < 0 ↔ b < 0) → a * b ≤ 0 := by
  intro h
  by_cases ha : a < 0
  · have hb : ¬ b < 0 := fun hb => h ⟨fun _ => hb, fun _ => ha⟩
    exact Int.mul_nonpos_of_nonpos_of_nonneg (by omega) (by omega)
  · have hb : b < 0 := by
      by_cases hb : b < 0
      · exact hb
      · exact (h ⟨fun x => absurd x ha, fun x => absurd x hb⟩).elim
    exact Int.mul_nonpos_of_nonneg_of_nonpos (by omega) (by omega)

theorem F14_of {a b : Int} {h : Heap} {K : Int → Bool → Heap → Prop} (ha : fits a) (hb : fits b) (hk : K (mulR a b).1 (mulR a b).2 h) : F14 a b h K := by
  unfold F14
  refine qcallP1.of _ (fun R => F19_of ha) ?_
  refine qcallP1.of _ (fun R => F19_of hb) ?_
  have a1 : 0 ≤ absI a ∧ absI a ≤ 9223372036854775808 := by unfold absI; unfold fits at ha; split <;> omega
  have b1 : 0 ≤ absI b ∧ absI b ≤ 9223372036854775808 := by unfold absI; unfold fits at hb; split <;> omega
  refine qcallP2.of _ _ (fun R => F18_of a1.1 (by omega) b1.1 (by omega)) ?_
  rw [abs_mul]
  unfold mulR at hk
  have hp : (a < 0 ↔ b < 0) → 0 ≤ a * b := mul_sign
  have hn : ¬ (a < 0 ↔ b < 0) → a * b ≤ 0 := mul_sign'
  generalize a * b = p at *
  have hab : absI p = if p < 0 then -p else p := rfl
  simp only [iteB_decide]
  by_cases hs : (a < 0 ↔ b < 0)
  · have hp := hp hs
    have e : (decide (a < 0) == decide (b < 0)) = true := by simp only [beq_iff_eq, decide_eq_decide]; exact hs
    rw [e, iteB_true]
    rw [hab, if_neg (by omega)]
    by_cases hf : fits p
    · rw [if_pos hf] at hk
      unfold fits at hf
      rw [show p / 18446744073709551616 = 0 by omega, show p % 18446744073709551616 = p by omega]
      simp only [bne_self_eq_false, iteB_false]
      rw [if_neg (by omega), wrap_id (by omega) (by omega)]; exact hk
    · rw [if_neg hf] at hk
      unfold fits at hf
      refine iteB_intro (fun _ => hk) (fun h0 => ?_)
      have h0 : p / 18446744073709551616 = 0 := by simpa using h0
      rw [if_pos (by omega)]; exact hk
  · have hp := hn hs
    have e : (decide (a < 0) == decide (b < 0)) = false := by
      cases hq : (decide (a < 0) == decide (b < 0)) with
      | false => rfl
      | true => simp only [beq_iff_eq, decide_eq_decide] at hq; exact absurd hq hs
    rw [e, iteB_false]
    have habs : absI p = -p := by rw [hab]; split <;> omega
    rw [habs]
    by_cases hf : fits p
    · rw [if_pos hf] at hk
      unfold fits at hf
      rw [show -p / 18446744073709551616 = 0 by omega, show -p % 18446744073709551616 = -p by omega]
      simp only [bne_self_eq_false, iteB_false]
      rw [if_neg (by omega), wrap_u64, wrap_i64_eq]
      rw [show ((0 - -p) % 18446744073709551616 + 9223372036854775808) % 18446744073709551616 - 9223372036854775808 = p by omega]; exact hk
    · rw [if_neg hf] at hk
      unfold fits at hf
      refine iteB_intro (fun _ => hk) (fun h0 => ?_)
      have h0 : -p / 18446744073709551616 = 0 := by simpa using h0
      rw [if_pos (by omega)]; exact hk
end Go.Proofs.Ythcdjimpppajjaa
