/-
  What the program's functions on whole floats do.
-/
import Derived.Test.YtnmeoeakepcieaaI1
namespace Go.Proofs.Ytnmeoeakepcieaa
set_option linter.unusedVariables false
set_option linter.unusedSimpArgs false
open Go.Hp Go.RowKit
attribute [local irreducible] Go.Hp.iteB

theorem nat_bad {b : Nat} (hb : b < 18446744073709551616) (h : ex b < 2047) (h0 : ex b ≠ 0) (hw : wholeR b) : badR b ↔ 9223372036854775808 ≤ natR b ∧ ¬ (9223372036854775808 ≤ b ∧ natR b = 9223372036854775808) := by
  obtain ⟨hbs, hfr, hm, hx⟩ := float_split hb h0
  have hn : natR b = magR b * 2 ^ ((ex b : Int) - 1075).toNat / 2 ^ (-((ex b : Int) - 1075)).toNat := by unfold natR; rw [hx]
  unfold badR
  by_cases hi : 1086 ≤ ex b
  · obtain ⟨u, hu⟩ : ∃ u : Nat, ex b = 1086 + u := ⟨ex b - 1086, by omega⟩
    have e1 : natR b = (fr b + 4503599627370496) * 2048 * 2 ^ u := by
      rw [hn, show (-((ex b : Int) - 1075)).toNat = 0 by omega, Nat.pow_zero, Nat.div_one, show ((ex b : Int) - 1075).toNat = 11 + u by omega, Nat.pow_add, hm, ← Nat.mul_assoc]
    have g1 : (fr b + 4503599627370496) * 2048 ≤ natR b := by rw [e1]; exact Nat.le_mul_of_pos_right _ (Nat.two_pow_pos u)
    have g2 : u = 0 ∨ 2 * ((fr b + 4503599627370496) * 2048) ≤ natR b := by
      rcases Nat.eq_zero_or_pos u with e | e
      · exact .inl e
      · right
        rw [e1, Nat.mul_comm]
        exact Nat.mul_le_mul_left _ (by have := Nat.pow_le_pow_right (n := 2) (by decide) e; omega)
    have g3 : u = 0 → natR b = (fr b + 4503599627370496) * 2048 := by intro e; rw [e1, e]; omega
    clear hn e1
    generalize natR b = q at *
    omega
  · have g1 : natR b < 9223372036854775808 := by
      rw [hn]
      refine Nat.lt_of_le_of_lt (Nat.div_le_self _ _) ?_
      have : 2 ^ ((ex b : Int) - 1075).toNat ≤ 2 ^ 10 := Nat.pow_le_pow_right (by decide) (by omega)
      have := Nat.mul_le_mul_left (magR b) this
      have := mag_lt b
      omega
    omega

theorem sv_range {s : Bool} {x : Nat} (h : ¬ (9223372036854775808 ≤ x ∧ ¬ (s = true ∧ x = 9223372036854775808))) : -9223372036854775808 ≤ sv s x ∧ sv s x ≤ 9223372036854775807 := by
  unfold sv; cases s
  · simp at h ⊢; omega
  · simp at h ⊢; omega

theorem kind2_zero {b : Nat} (h : kindI b = 2) : ex b = 0 ∧ fr b = 0 := by
  unfold kindI at h
  by_cases d : ex b = 2047
  · rw [if_pos d] at h; split at h <;> simp at h
  · rw [if_neg d] at h; by_cases e : ex b = 0
    · rw [if_pos e] at h; by_cases f : fr b = 0
      · exact ⟨e, f⟩
      · rw [if_neg f] at h; simp at h
    · rw [if_neg e] at h; simp at h

theorem intR_err {b : Nat} (h : (intR b).2 ≠ 0) : (intR b).1 = 0 := by
  unfold intR at *
  repeat' split
  all_goals first | rfl | simp_all
theorem intR_ok {b : Nat} (hb : b < 18446744073709551616) (h : (intR b).2 = 0) : ex b ≠ 2047 ∧ sv (decide (9223372036854775808 ≤ b)) (natR b) = (intR b).1 ∧ -9223372036854775808 ≤ (intR b).1 ∧ (intR b).1 ≤ 9223372036854775807 := by
  unfold intR at *
  by_cases c0 : kindI b = 0
  · rw [if_pos c0] at h; simp at h
  rw [if_neg c0] at h ⊢
  by_cases c1 : kindI b = 1
  · rw [if_pos c1] at h; simp at h
  rw [if_neg c1] at h ⊢
  by_cases c2 : kindI b = 2
  · rw [if_pos c2] at h ⊢
    obtain ⟨z1, z2⟩ := kind2_zero c2
    have hm : magR b = 0 := by unfold magR; rw [if_pos z1, z2]
    have hn : natR b = 0 := by unfold natR; rw [hm]; simp
    rw [hn]
    exact ⟨by omega, by cases decide (9223372036854775808 ≤ b) <;> rfl, by decide, by decide⟩
  rw [if_neg c2] at h ⊢
  by_cases c3 : kindI b = 3
  · rw [if_pos c3] at h; simp at h
  rw [if_neg c3] at h ⊢
  obtain ⟨hx, hx0, _⟩ := kind_4 c0 c1 c2 c3
  by_cases cw : wholeR b
  · rw [if_neg (by simpa using cw)] at h ⊢
    by_cases cb : badR b
    · rw [if_pos cb] at h; simp at h
    · rw [if_neg cb]
      have := (not_congr (nat_bad hb hx hx0 cw)).1 cb
      obtain ⟨r1, r2⟩ := sv_range (s := decide (9223372036854775808 ≤ b)) (x := natR b) (by simpa using this)
      exact ⟨by omega, rfl, r1, r2⟩
  · rw [if_pos (by simpa using cw)] at h; simp at h

theorem F21_of {b : Nat} {h : Heap} {K : Int → Heap → Prop} (hb : b < 18446744073709551616) (hk : K (intR b).2 h) : F21 b h K := by
  unfold F21
  refine qcallP1.of (kindI b) (fun R hR => F27_of hb hR) ?_
  unfold intR at hk
  by_cases c0 : kindI b = 0
  · rw [if_pos c0] at hk; exact iteB_pos (by rw [c0]; rfl) hk
  rw [if_neg c0] at hk; refine iteB_neg (beq_eq_false_iff_ne.2 c0) ?_
  by_cases c1 : kindI b = 1
  · rw [if_pos c1] at hk; exact iteB_pos (by rw [c1]; rfl) hk
  rw [if_neg c1] at hk; refine iteB_neg (beq_eq_false_iff_ne.2 c1) ?_
  by_cases c2 : kindI b = 2
  · rw [if_pos c2] at hk; rw [c2]
    exact iteB_neg rfl (iteB_neg rfl (iteB_pos rfl hk))
  rw [if_neg c2] at hk
  by_cases c3 : kindI b = 3
  · rw [if_pos c3] at hk; exact iteB_pos (by rw [c3]; rfl) hk
  rw [if_neg c3] at hk; refine iteB_neg (beq_eq_false_iff_ne.2 c3) ?_
  obtain ⟨hx, hx0, c4⟩ := kind_4 c0 c1 c2 c3
  refine iteB_pos (by rw [c4]; rfl) ?_
  refine qcallP1.of (truncF b) (fun R hR => ⟨truncOK_fin hb (by omega), hR⟩) ?_
  rw [trunc_whole hb hx hx0]
  by_cases cw : wholeR b
  · rw [if_neg (by simpa using cw)] at hk
    refine iteB_neg (by simpa using cw) ?_
    have hr := range_bad hb hx hx0
    by_cases cb : badR b
    · rw [if_pos cb] at hk
      rw [decide_eq_true cb] at hr
      cases hA : (FloatKind.f64.format.order b 14114281232179134464 == some .lt) with
      | true => exact iteB_pos rfl hk
      | false => rw [hA, Bool.false_or] at hr; exact iteB_neg rfl (iteB_pos hr hk)
    · rw [if_neg cb] at hk
      rw [decide_eq_false cb] at hr
      obtain ⟨r1, r2⟩ := Bool.or_eq_false_iff.1 hr
      exact iteB_neg r1 (iteB_neg r2 hk)
  · rw [if_pos (by simpa using cw)] at hk
    exact iteB_pos (by simpa using cw) hk

theorem i64_min : IntKind.i64.min = -9223372036854775808 := by decide
theorem i64_max : IntKind.i64.max = 9223372036854775807 := by decide

theorem F11_of {b : Nat} {h : Heap} {K : Int → Int → Heap → Prop} (hb : b < 18446744073709551616) (hk : K (intR b).1 (intR b).2 h) : F11 b h K := by
  unfold F11
  refine qcallP1.of (intR b).2 (fun R hR => F21_of hb hR) ?_
  by_cases c : (intR b).2 = 0
  · obtain ⟨g1, g2, g3, g4⟩ := intR_ok hb c
    refine iteB_neg (by simp [c]) ⟨(intR b).1, by rw [toInt_fin hb g1, g2], by rw [i64_min, i64_max]; exact ⟨g3, g4⟩, ?_⟩
    rw [c] at hk; exact hk
  · refine iteB_pos (by simpa using c) ?_
    rw [intR_err c] at hk; exact hk

def weightR (b : Nat) : Int × Int := if (intR b).2 ≠ 0 then (0, (intR b).2) else if (intR b).1 < 0 ∨ (intR b).1 > 2147483648 then (0, 5) else ((intR b).1, 0)
theorem F15_of {b : Nat} {h : Heap} {K : Int → Int → Heap → Prop} (hb : b < 18446744073709551616) (hk : K (weightR b).1 (weightR b).2 h) : F15 b h K := by
  unfold F15
  refine qcallP2.of (intR b).1 (intR b).2 (fun R hR => F11_of hb hR) ?_
  unfold weightR at hk
  by_cases c : (intR b).2 = 0
  · rw [if_neg (by simpa using c)] at hk
    refine iteB_neg (by simp [c]) ?_
    by_cases c1 : (intR b).1 < 0
    · rw [if_pos (.inl c1)] at hk
      exact iteB_pos (decide_eq_true c1) (iteB_pos (decide_eq_true c1) hk)
    · refine iteB_neg (decide_eq_false c1) ?_
      by_cases c2 : (intR b).1 > 2147483648
      · rw [if_pos (.inr c2)] at hk
        exact iteB_pos (decide_eq_true c2) hk
      · rw [if_neg (by omega)] at hk
        exact iteB_neg (decide_eq_false c2) hk
  · rw [if_pos c] at hk
    exact iteB_pos (by simpa using c) hk

theorem floatR_no {n : Int} (h1 : -9223372036854775808 ≤ n) (h2 : n < 9223372036854775808) (h : (floatR n).2 = false) : (floatR n).1 = 0 := by
  unfold floatR makeR at *
  rcases makeS_cases (sgn (decide (n < 0))) n.natAbs 0 (by omega) with ⟨_, h'⟩ | ⟨_, h', _⟩ | ⟨_, _, _, r, M, _, _, ⟨hM, _, h'⟩ | ⟨_, _, E, _, _, hE, h'⟩⟩ <;> rw [h'] at h ⊢ <;> cases h

theorem F12_of {n : Int} {h : Heap} {K : Nat → Bool → Heap → Prop} (h1 : -9223372036854775808 ≤ n) (h2 : n < 9223372036854775808) (hk : K (floatR n).1 (floatR n).2 h) : F12 n h K := by
  unfold F12
  refine qcallP2.of (intR (FloatKind.f64.nearest n)).1 (intR (FloatKind.f64.nearest n)).2 (fun R hR => F11_of (nearest_lt n) hR) ?_
  cases hok : (floatR n).2 with
  | true =>
    obtain ⟨g1, g2⟩ := int_of_float h1 h2 hok
    rw [hok, ← g1] at hk
    rw [← g1] at g2
    rw [g2]
    exact iteB_neg rfl (iteB_neg (by simp) hk)
  | false =>
    rw [hok, floatR_no h1 h2 hok] at hk
    by_cases c : (intR (FloatKind.f64.nearest n)).2 = 0
    · refine iteB_neg (by simp [c]) (iteB_pos ?_ hk)
      rw [bne_iff_ne]
      intro e
      rcases float_of_int (nearest_lt n) (v := n) (Prod.ext e c) with ⟨z, _⟩ | ⟨_, z⟩
      · rw [z] at hok; exact absurd hok (by decide)
      · rw [z] at hok; cases hok
    · exact iteB_pos (by simpa using c) hk

theorem F19_of {b : Nat} {h : Heap} {K : Bool → Heap → Prop} (hb : b < 18446744073709551616) (hk : K (decide ((intR b).2 = 0 ∨ (intR b).2 = 10)) h) : F19 b h K := by
  unfold F19
  refine qcallP1.of (intR b).2 (fun R hR => F21_of hb hR) ?_
  by_cases c : (intR b).2 = 0
  · rw [decide_eq_true (.inl c)] at hk; exact iteB_pos (by rw [c]; rfl) hk
  · refine iteB_neg (beq_eq_false_iff_ne.2 c) ?_
    have : ((intR b).2 == 10) = decide ((intR b).2 = 0 ∨ (intR b).2 = 10) := by
      by_cases d : (intR b).2 = 10 <;> simp [c, d]
    rw [this]; exact hk

theorem int_m3 : intR 13837309855095848960 = (-3, 0) := by
  have h1 : magR 13837309855095848960 = 3 * 2 ^ 51 := by decide
  have hx : ex 13837309855095848960 = 1024 := by decide
  have hw : wholeR 13837309855095848960 := by unfold wholeR; rw [h1, (tz_mul (o := 3) (k := 51) (by decide)).1, hx]; decide
  have hb : ¬ badR 13837309855095848960 := by decide
  unfold intR; rw [if_neg (by decide), if_neg (by decide), if_neg (by decide), if_neg (by decide), if_neg (by simpa using hw), if_neg hb]; decide
theorem int_half : intR 4602678819172646912 = (0, 13) := by
  have h1 : magR 4602678819172646912 = 1 * 2 ^ 52 := by decide
  have hx : ex 4602678819172646912 = 1022 := by decide
  have hw : ¬ wholeR 4602678819172646912 := by unfold wholeR; rw [h1, (tz_mul (o := 1) (k := 52) (by decide)).1, hx]; decide
  unfold intR; rw [if_neg (by decide), if_neg (by decide), if_neg (by decide), if_neg (by decide), if_pos hw]
theorem int_7 : intR 4619567317775286272 = (7, 0) := by
  have h1 : magR 4619567317775286272 = 7 * 2 ^ 50 := by decide
  have hx : ex 4619567317775286272 = 1025 := by decide
  have hw : wholeR 4619567317775286272 := by unfold wholeR; rw [h1, (tz_mul (o := 7) (k := 50) (by decide)).1, hx]; decide
  have hb : ¬ badR 4619567317775286272 := by decide
  unfold intR; rw [if_neg (by decide), if_neg (by decide), if_neg (by decide), if_neg (by decide), if_neg (by simpa using hw), if_neg hb]; decide

theorem F6_of {h : Heap} {K : Bool → Heap → Prop} (hk : K true h) : F6 h K := by
  unfold F6
  refine qcallP2.of (-3) 0 (fun R hR => F11_of (by decide) (by rw [int_m3]; exact hR)) ?_
  refine qcallP2.of 0 13 (fun R hR => F11_of (by decide) (by rw [int_half]; exact hR)) ?_
  refine qcallP2.of 7 0 (fun R hR => F15_of (by decide) (by unfold weightR; rw [int_7]; exact hR)) ?_
  exact iteB_pos rfl (iteB_pos rfl (iteB_pos rfl (iteB_pos rfl hk)))

/-- FintBack. -/
theorem F4_of {b : Nat} {n : Int} {h : Heap} {K : Bool → Heap → Prop} (hb : b < 18446744073709551616) (h1 : -9223372036854775808 ≤ n) (h2 : n < 9223372036854775808) (hk : K true h) : F4 (b : Int) n h K := by
  have haw : ∀ {R : Bool → Heap → Prop}, R true h → F6 h R := fun hR => F6_of hR
  have hend : qcallP1 h (F6 h) fun x => K x h := qcallP1.of true (fun R hR => haw hR) hk
  have fl0 : floatR 0 = (0, true) := by rfl
  unfold F4
  refine qcallP1.of b (fun R hR => F7_of hR) ?_
  refine qcallP2.of (intR b).1 (intR b).2 (fun R hR => F11_of hb hR) ?_
  have hr : -9223372036854775808 ≤ (intR b).1 ∧ (intR b).1 < 9223372036854775808 := by
    by_cases c : (intR b).2 = 0
    · obtain ⟨_, _, a, b⟩ := intR_ok hb c; omega
    · rw [intR_err c]; omega
  refine qcallP2.of (floatR (intR b).1).1 (floatR (intR b).1).2 (fun R hR => F12_of hr.1 hr.2 hR) ?_
  intro j31
  have hj : j31 := by
    simp only [j31]
    refine qcallP2.of (floatR n).1 (floatR n).2 (fun R hR => F12_of h1 h2 hR) ?_
    cases hok : (floatR n).2 with
    | true =>
      obtain ⟨g1, g2⟩ := int_of_float h1 h2 hok
      refine qcallP2.of n 0 (fun R hR => F11_of (by rw [← g1]; exact nearest_lt n) (by rw [g2]; exact hR)) ?_
      refine iteB_neg rfl (iteB_pos rfl (iteB_pos (by simp) (iteB_pos rfl ?_)))
      exact iteB_intro (fun _ => hend) fun _ => iteB_intro (fun _ => hend) fun _ => iteB_pos rfl hend
    | false =>
      have hz := floatR_no h1 h2 hok
      rw [hz]
      refine qcallP2.of 0 0 (fun R hR => F11_of (by decide) (by rw [show intR 0 = (0, 0) by rfl]; exact hR)) ?_
      have hbig : n < -9007199254740992 ∨ n > 9007199254740992 := by
        apply Decidable.byContradiction
        intro hc
        have hab : n.natAbs ≤ 9007199254740992 := by omega
        have hal : n.natAbs < 18446744073709551616 := by omega
        have hnz : n.natAbs ≠ 0 := by
          intro e; have : n = 0 := by omega
          rw [this, fl0] at hok; cases hok
        unfold floatR makeR at hok
        generalize n.natAbs = c at *
        rcases makeS_cases (sgn (decide (n < 0))) c 0 hal with ⟨e, _⟩ | ⟨_, _, hc⟩ | ⟨_, _, _, r, M, _, _, ⟨_, _, e⟩ | ⟨_, _, E, _, _, _, e⟩⟩
        · exact hnz e
        · obtain ⟨t1, t2⟩ := tz_spec c hnz
          have hon : c / 2 ^ tz c ≠ 0 := fun e => by rw [e] at t1; omega
          have hlen := len_mul (tz c) hon
          rw [← t2] at hlen
          have hl54 : len c ≤ 54 := len_le.2 (by omega)
          have t54 : tz c < 54 := tz_lt hnz (by omega)
          have hpos : tz c = 0 → c % 2 = 1 := by intro e; rw [e] at t1; simpa using t1
          have hl53 : tz c = 0 → len c ≤ 53 := fun e => len_le.2 (by have := hpos e; omega)
          clear t1 t2 hon
          generalize len (c / 2 ^ tz c) = lo at *
          generalize tz c = k at *
          generalize len c = lc at *
          omega
        · rw [e] at hok; cases hok
        · rw [e] at hok; cases hok
      refine iteB_pos rfl (iteB_neg rfl (qcallP1.of 0 (fun R hR => F14_of (b := 0) (by decide) hR) (qcallP1.of 0 (fun R hR => F13_of (b := 0) hR) (iteB_pos rfl ?_))))
      rcases hbig with g | g
      · exact iteB_pos (decide_eq_true g) hend
      · exact iteB_neg (decide_eq_false (by omega)) (iteB_pos (decide_eq_true g) hend)
  clear_value j31
  by_cases c : (intR b).2 = 0
  · refine iteB_pos (by rw [c]; rfl) ?_
    have e0 : ((intR b).2 != 0) = false := by rw [c]; rfl
    rcases float_of_int hb (v := (intR b).1) (Prod.ext rfl c) with ⟨z, zb⟩ | ⟨z, zb⟩
    · rw [z, fl0]
      refine iteB_neg rfl (qcallP1.of 0 (fun R hR => F13_of (b := 0) hR) ?_)
      rcases zb with e | e
      · subst e
        exact iteB_neg rfl (iteB_neg e0 hj)
      · subst e
        exact iteB_pos (by decide) (iteB_neg (by decide) (iteB_neg e0 hj))
    · rw [zb]
      refine iteB_neg rfl (qcallP1.of (bitsR b) (fun R hR => F13_of hR) ?_)
      have : bitsR b = b := by unfold bitsR; rw [if_neg (kind_ne (intR_ok hb c).1)]
      rw [this]
      exact iteB_neg (by simp) (iteB_neg e0 hj)
  · refine iteB_neg (beq_eq_false_iff_ne.2 c) (iteB_pos (by simpa using c) (iteB_neg ?_ hj))
    rw [intR_err c]; rfl
end Go.Proofs.Ytnmeoeakepcieaa
