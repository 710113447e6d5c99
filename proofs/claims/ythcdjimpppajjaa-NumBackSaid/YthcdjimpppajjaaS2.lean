/-
  What the functions of this seat do, those that make memory.
-/
import Derived.Test.YthcdjimpppajjaaS1
namespace Go.Proofs.Ythcdjimpppajjaa
set_option linter.unusedVariables false
set_option linter.unusedSimpArgs false
open Go.Hp Go.RowKit

theorem nd_true (p : Prop) [Decidable p] : (true = !decide p) ↔ ¬ p := by by_cases h : p <;> simp [h]
theorem nd_false (p : Prop) [Decidable p] : (false = !decide p) ↔ p := by by_cases h : p <;> simp [h]

theorem pair_end {h0 h : Heap} {b : Nat} {c0 c1 : Value} {x : Int} {y : Bool} {K : Int → Bool → Heap → Prop} (hr : row h b [c0, c1]) (hb : h0.size ≤ b) (e : Ext h0 h) (hk : ∀ h', Ext h0 h' → K x y h') :
    stC h ⟨b, 0, none⟩ (.int .i64 x) fun h6 => stC h6 ⟨b, 1, none⟩ (.bool y) fun h7 =>
      ∃ x' : Int, cell h7 ⟨b, 0, none⟩ = some (.int .i64 x') ∧ ∃ y' : Bool, cell h7 ⟨b, 1, none⟩ = some (.bool y') ∧ K x' y' h7 := by
  refine stC_row hr (by simp) (stC_row (hr.set 0 _) (by simp) ?_)
  have hr2 := (hr.set 0 (.int .i64 x)).set 1 (.bool y)
  refine ⟨x, by rw [hr2.cell]; rfl, y, by rw [hr2.cell]; rfl, hk _ ?_⟩
  exact (e.setC hb _).setC hb _

theorem F15_of {a b : Int} {h : Heap} {K : Int → Bool → Heap → Prop} (ha : fits a) (hb : fits b) (hk : ∀ h', Ext h h' → K (addR a b).1 (addR a b).2 h') : F15 a b h K := by
  unfold F15
  refine newP_intro fun p h4 hp hs he hr => ?_
  subst hp
  simp -zeta only [add_mk, Nat.zero_add]
  intro j
  have hj : ∀ y, y = !decide (fits (a + b)) → j y := by
    intro y hy
    show iteB y _ _
    subst hy
    unfold addR at hk
    by_cases hf : fits (a + b)
    · simp only [if_pos hf, hf, decide_true, Bool.not_true, iteB_false] at hk ⊢
      unfold fits at hf
      rw [wrap_id (by omega) (by omega)]
      exact pair_end hr (Nat.le_refl _) he hk
    · simp only [if_neg hf, hf, decide_false, Bool.not_false, iteB_true] at hk ⊢
      exact pair_end hr (Nat.le_refl _) he hk
  clear_value j
  unfold fits at ha hb
  rw [wrap_i64_eq]
  refine iteB_intro (fun h1 => iteB_intro (fun h2 => hj _ ?_) (fun h2 => iteB_intro (fun h3 => ?_) (fun h3 => hj _ ?_))) (fun h1 => iteB_intro (fun h2 => hj _ ?_) (fun h2 => ?_))
  all_goals simp only [decide_eq_true_eq, decide_eq_false_iff_not] at *
  · rw [nd_true]; unfold fits; omega
  · omega
  · rw [nd_false]; unfold fits; omega
  · by_cases h3 : (a + b + 9223372036854775808) % 18446744073709551616 - 9223372036854775808 > a
    · rw [decide_eq_true h3, nd_true]; unfold fits; omega
    · rw [decide_eq_false h3, nd_false]; unfold fits; omega
  · omega

theorem F16_of {a b : Int} {h : Heap} {K : Int → Bool → Heap → Prop} (ha : fits a) (hb : fits b) (hk : ∀ h', Ext h h' → K (subR a b).1 (subR a b).2 h') : F16 a b h K := by
  unfold F16
  refine newP_intro fun p h4 hp hs he hr => ?_
  subst hp
  simp -zeta only [add_mk, Nat.zero_add]
  intro j
  have hj : ∀ y, y = !decide (fits (a - b)) → j y := by
    intro y hy
    show iteB y _ _
    subst hy
    unfold subR at hk
    by_cases hf : fits (a - b)
    · simp only [if_pos hf, hf, decide_true, Bool.not_true, iteB_false] at hk ⊢
      unfold fits at hf
      rw [wrap_id (by omega) (by omega)]
      exact pair_end hr (Nat.le_refl _) he hk
    · simp only [if_neg hf, hf, decide_false, Bool.not_false, iteB_true] at hk ⊢
      exact pair_end hr (Nat.le_refl _) he hk
  clear_value j
  unfold fits at ha hb
  rw [wrap_i64_eq]
  refine iteB_intro (fun h1 => iteB_intro (fun h2 => hj _ ?_) (fun h2 => iteB_intro (fun h3 => ?_) (fun h3 => hj _ ?_))) (fun h1 => iteB_intro (fun h2 => hj _ ?_) (fun h2 => ?_))
  all_goals simp only [decide_eq_true_eq, decide_eq_false_iff_not] at *
  · rw [nd_true]; unfold fits; omega
  · omega
  · rw [nd_false]; unfold fits; omega
  · by_cases h3 : (a - b + 9223372036854775808) % 18446744073709551616 - 9223372036854775808 < a
    · rw [decide_eq_true h3, nd_true]; unfold fits; omega
    · rw [decide_eq_false h3, nd_false]; unfold fits; omega
  · omega

/-- A wrapped product divided by a factor is the other one just if it fits. -/
theorem div_back {a b p : Int} (hb : fits b) (hb0 : b ≠ 0) (hp : p = IntKind.i64.wrap (a * b)) (hq : p.tdiv b = a) : fits (a * b) := by
  have h1 := Int.mul_tdiv_add_tmod p b
  rw [hq] at h1
  have h2 : (p.tmod b).natAbs < b.natAbs := by
    have := Int.natAbs_tmod p b
    rw [this]; exact Nat.mod_lt _ (by omega)
  rw [Int.mul_comm b a] at h1
  rw [wrap_i64_eq] at hp
  unfold fits at *
  generalize a * b = s at *
  generalize p.tmod b = m at *
  omega

theorem tdiv_fits {p b : Int} (hp : fits p) (h : ¬ (b = -1 ∧ p = -9223372036854775808)) : fits (p.tdiv b) := by
  have h1 := Int.mul_tdiv_add_tmod p b
  have h3 : (p.tdiv b).natAbs ≤ p.natAbs := Int.natAbs_tdiv_le_natAbs p b
  unfold fits at *
  by_cases hm : p = -9223372036854775808
  · have hb : b ≠ -1 := fun e => h ⟨e, hm⟩
    by_cases hb1 : (p.tdiv b) = 9223372036854775808
    · rw [hb1, hm] at h1
      have h2 : (p.tmod b).natAbs ≤ p.natAbs := by
        have := Int.natAbs_tmod p b
        rw [this]; exact Nat.mod_le _ _
      rw [hm] at h2
      have h4 : b = 0 ∨ (p.tmod b).natAbs < b.natAbs := by
        by_cases h0 : b = 0
        · exact .inl h0
        · right
          have := Int.natAbs_tmod p b
          rw [this]; exact Nat.mod_lt _ (by omega)
      rw [hm] at h4
      rcases h4 with h4 | h4
      · subst h4; simp at hb1
      · omega
    · omega
  · omega

theorem F17_of {a b : Int} {h : Heap} {K : Int → Bool → Heap → Prop} (ha : fits a) (hb : fits b) (hk : ∀ h', Ext h h' → K (mulR a b).1 (mulR a b).2 h') : F17 a b h K := by
  unfold F17
  refine newP_intro fun p h4 hp hs he hr => ?_
  subst hp
  simp -zeta only [add_mk, Nat.zero_add]
  unfold mulR at hk
  have yes : fits (a * b) → ∀ h', Ext h h' → K (a * b) true h' := fun hf => by simpa [hf] using hk
  have no : ¬ fits (a * b) → ∀ h', Ext h h' → K 0 false h' := fun hf => by simpa [hf] using hk
  clear hk
  refine iteB_intro (fun h1 => ?_) (fun h1 => iteB_intro (fun h2 => ?_) (fun h2 => ?_))
  · simp only [beq_iff_eq] at h1
    subst h1
    have := yes (by simp [fits])
    simp only [Int.zero_mul] at this
    exact pair_end hr (Nat.le_refl _) he this
  · simp only [beq_iff_eq] at h2
    subst h2
    have := yes (by simp [fits])
    simp only [Int.mul_zero] at this
    exact pair_end hr (Nat.le_refl _) he this
  · have h1 : a ≠ 0 := by simpa using h1
    have h2 : b ≠ 0 := by simpa using h2
    intro j
    have hj : ∀ y : Bool, (y = true → ¬ fits (a * b)) → (y = false → ¬ (a = -1 ∧ b = -9223372036854775808) ∧ ¬ (b = -1 ∧ a = -9223372036854775808)) → j y := by
      intro y hy hn
      show iteB y _ _
      refine iteB_intro (fun e => pair_end hr (Nat.le_refl _) he (no (hy e))) (fun e => ⟨h2, ?_⟩)
      obtain ⟨n1, n2⟩ := hn e
      have hfp := fits_wrap (a * b)
      have key : fits (a * b) → (IntKind.i64.wrap (a * b)).tdiv b = a ∧ (IntKind.i64.wrap (a * b)).tdiv a = b := by
        intro hf
        unfold fits at hf
        rw [wrap_id (by omega) (by omega)]
        exact ⟨Int.mul_tdiv_cancel _ h2, Int.mul_tdiv_cancel_left _ h1⟩
      refine iteB_intro (fun e1 => ?_) (fun e1 => ⟨h1, iteB_intro (fun e2 => ?_) (fun e2 => ?_)⟩)
      · refine pair_end hr (Nat.le_refl _) he (no fun hf => ?_)
        rw [(key hf).1] at e1
        have := ha
        unfold fits at this
        rw [wrap_id (by omega) (by omega)] at e1
        simp at e1
      · refine pair_end hr (Nat.le_refl _) he (no fun hf => ?_)
        rw [(key hf).2] at e2
        have := hb
        unfold fits at this
        rw [wrap_id (by omega) (by omega)] at e2
        simp at e2
      · have hf : fits (a * b) := by
          by_cases hm : b = -1 ∧ IntKind.i64.wrap (a * b) = -9223372036854775808
          · obtain ⟨m1, m2⟩ := hm
            subst m1
            rw [wrap_i64_eq] at m2
            unfold fits at ha
            have : a ≠ -9223372036854775808 := fun e => n2 ⟨rfl, e⟩
            omega
          · have ht := tdiv_fits hfp hm
            have e1' : IntKind.i64.wrap ((IntKind.i64.wrap (a * b)).tdiv b) = a := by simpa using e1
            unfold fits at ht
            rw [wrap_id (by omega) (by omega)] at e1'
            exact div_back hb h2 rfl e1'
        have := yes hf
        have hf' := hf
        unfold fits at hf'
        rw [wrap_id (by omega) (by omega)]
        exact pair_end hr (Nat.le_refl _) he this
    clear_value j
    unfold fits at ha hb
    have hbad : (a = -1 ∧ b = -9223372036854775808) ∨ (b = -1 ∧ a = -9223372036854775808) → ¬ fits (a * b) := by
      unfold fits; rintro (⟨rfl, rfl⟩ | ⟨rfl, rfl⟩) <;> omega
    refine iteB_intro (fun e1 => iteB_intro (fun e2 => hj _ ?_ ?_) (fun e2 => iteB_intro (fun e3 => hj _ ?_ ?_) (fun e3 => hj _ ?_ ?_))) (fun e1 => iteB_intro (fun e2 => hj _ ?_ ?_) (fun e2 => hj _ ?_ ?_))
    all_goals simp only [beq_iff_eq, beq_eq_false_iff_ne] at *
    · exact fun _ => hbad (.inl ⟨e1, e2⟩)
    · intro h; cases h
    · exact fun e => hbad (.inr ⟨e3, e⟩)
    · intro e; omega
    · intro h; cases h
    · intro _; omega
    · exact fun e => hbad (.inr ⟨e2, e⟩)
    · intro e; omega
    · intro h; cases h
    · intro _; omega

theorem F10_of {n : Int} {ok : Bool} {m : Int} {q : Bool} {h : Heap} {K : Bool → Heap → Prop} (hk : ∀ h', Ext h h' → K (n == m && ok == q) h') : F10 n ok m q h K := by
  unfold F10
  refine newP_intro fun p h4 hp hs he hr => ?_
  subst hp
  simp -zeta only [add_mk, Nat.zero_add]
  refine ⟨m, by rw [hr.cell]; rfl, iteB_intro (fun e => ⟨q, by rw [hr.cell]; rfl, ?_⟩) (fun e => ?_)⟩
  · have := hk _ he; rw [e] at this; simpa using this
  · have := hk _ he; rw [e] at this; simpa using this
end Go.Proofs.Ythcdjimpppajjaa
