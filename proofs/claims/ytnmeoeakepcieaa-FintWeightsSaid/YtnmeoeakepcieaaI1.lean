/-
  What the functions that whole floats need do: kinds, bits, parts, the float that is made (the document's).
-/
import Derived.Test.YtnmeoeakepcieaaG0
import Derived.Test.YtnmeoeakepcieaaG1
import Derived.Test.YtnmeoeakepcieaaB5
namespace Go.Proofs.Ytnmeoeakepcieaa
set_option linter.unusedVariables false
set_option linter.unusedSimpArgs false
open Go.Hp Go.RowKit

theorem F27_of {b : Nat} {h : Heap} {K : Int → Heap → Prop} (hb : b < 18446744073709551616) (hk : K (kindI b) h) : F27 b h K := by
  unfold F27
  have hx : b % 9223372036854775808 / 4503599627370496 = ex b := by unfold ex; omega
  have hf : b % 9223372036854775808 % 4503599627370496 = fr b := by unfold fr; omega
  rw [kind_nan, andNot_top b hb, fdiv_nat, show (2 : Nat) ^ 52 = 4503599627370496 by decide, hx]
  have e1 : (((ex b : Nat) : Int) == 2047) = decide (ex b = 2047) := by by_cases h : ex b = 2047 <;> simp [h]; omega
  have e2 : (((ex b : Nat) : Int) == 0) = decide (ex b = 0) := by by_cases h : ex b = 0 <;> simp [h]
  have e3 : (((b % 9223372036854775808 : Nat) : Int) == 0) = decide (ex b = 0 ∧ fr b = 0) := by
    by_cases h : ex b = 0 ∧ fr b = 0
    · simp only [h]; simp; omega
    · rw [decide_eq_false h]; simp only [beq_eq_false_iff_ne, ne_eq]; omega
  rw [e1, e2, e3]
  simp only [iteB_decide]
  have e4 : ∀ p q : Prop, (p ∧ q) → (p ∧ q) := fun _ _ h => h
  by_cases c0 : kindI b = 0
  · rw [if_pos c0]; rw [c0] at hk; exact hk
  · rw [if_neg c0]; unfold kindI at hk c0
    refine ⟨by decide, ?_⟩
    by_cases c1 : ex b = 2047
    · rw [if_pos c1]; rw [if_pos c1] at hk c0
      by_cases c2 : fr b = 0
      · rw [if_pos c2] at hk; exact hk
      · rw [if_neg c2] at c0; exact absurd rfl c0
    · rw [if_neg c1]; rw [if_neg c1] at hk
      by_cases c2 : ex b = 0
      · rw [if_pos c2] at hk
        by_cases c3 : fr b = 0
        · rw [if_pos ⟨c2, c3⟩]; rw [if_pos c3] at hk; exact hk
        · rw [if_neg (fun x => c3 x.2), if_pos c2]; rw [if_neg c3] at hk; exact ⟨by decide, hk⟩
      · rw [if_neg (fun x => c2 x.1), if_neg c2]; rw [if_neg c2] at hk; exact ⟨by decide, hk⟩

theorem F23_of {b : Nat} {h : Heap} {K : Int → Heap → Prop} (hb : b < 18446744073709551616) (hk : K (kindI b) h) : F23 (b : Int) h K := by
  unfold F23
  have hx : b / 4503599627370496 % 2048 = ex b := rfl
  rw [fdiv_nat, show (2 : Nat) ^ 52 = 4503599627370496 by decide, and_2047 _ (by omega), hx, and_low b hb]
  have e1 : (((ex b : Nat) : Int) == 2047) = decide (ex b = 2047) := by by_cases h : ex b = 2047 <;> simp [h]; omega
  have e2 : (((ex b : Nat) : Int) == 0) = decide (ex b = 0) := by by_cases h : ex b = 0 <;> simp [h]
  have e3 : (((fr b : Nat) : Int) == 0) = decide (fr b = 0) := by by_cases h : fr b = 0 <;> simp [h]
  have e4 : (((fr b : Nat) : Int) != 0) = decide (fr b ≠ 0) := by by_cases h : fr b = 0 <;> simp [h]
  rw [e1, e2, e3, e4]
  simp only [iteB_decide]
  unfold kindI at hk
  refine ⟨by decide, ?_⟩
  by_cases c1 : ex b = 2047
  · by_cases c2 : fr b = 0 <;> simp [c1, c2] at hk ⊢ <;> exact hk
  · by_cases c2 : ex b = 0
    · by_cases c3 : fr b = 0 <;> simp [c2, c3] at hk ⊢ <;> exact hk
    · simp [c1, c2] at hk ⊢; exact hk

theorem F7_of {b : Nat} {h : Heap} {K : Nat → Heap → Prop} (hk : K b h) : F7 (b : Int) h K := by unfold F7; simpa using hk

theorem F13_of {b : Nat} {h : Heap} {K : Int → Heap → Prop} (hk : K (bitsR b) h) : F13 b h K := by
  unfold F13; rw [kind_nan, iteB_decide]; unfold bitsR at hk
  by_cases c : kindI b = 0
  · rw [if_pos c] at hk ⊢; exact hk
  · rw [if_neg c] at hk ⊢; exact hk

theorem F14_of {b : Nat} {h : Heap} {K : Int → Heap → Prop} (hb : b < 18446744073709551616) (hk : K (bitsR b) h) : F14 (b : Int) h K := by
  unfold F14; refine qcallP1.of (kindI b) (fun R hR => F23_of hb hR) ?_
  unfold bitsR at hk
  by_cases c : kindI b = 0
  · rw [if_pos c] at hk; exact iteB_pos (by simp [c]) hk
  · rw [if_neg c] at hk; exact iteB_neg (by simp [c]) hk

theorem F25_of {b : Nat} {h : Heap} {K : Bool → Heap → Prop} (hb : b < 18446744073709551616) (hk : K (negR b) h) : F25 (b : Int) h K := by
  unfold F25; refine qcallP1.of (kindI b) (fun R hR => F23_of hb hR) ?_
  unfold negR at hk
  by_cases c : kindI b = 0
  · exact iteB_neg (by simp [c]) (by simpa [c] using hk)
  · refine iteB_pos (by simp [c]) ⟨by decide, ?_⟩
    rw [fdiv_nat, show (2 : Nat) ^ 63 = 9223372036854775808 by decide]
    have : (((b / 9223372036854775808 : Nat) : Int) == 1) = decide (9223372036854775808 ≤ b) := by
      by_cases c : 9223372036854775808 ≤ b
      · simp only [c]; simp; omega
      · rw [decide_eq_false c]; simp only [beq_eq_false_iff_ne, ne_eq]; omega
    rw [this]; simpa [c] using hk

theorem res3 {h0 h : Heap} {b : Nat} {v0 v1 v2 : Value} {x y : Int} {z : Bool} {K : Int → Int → Bool → Heap → Prop} (r : row h b [v0, v1, v2]) (e : Ext h0 h) (hb : h0.size ≤ b) (hk : ∀ h', Ext h0 h' → K x y z h') :
    stC h ⟨b, 0, none⟩ (.int .u64 x) fun h25 => stC h25 ((⟨b, 0, none⟩ : Addr).add 1) (.int .i64 y) fun h26 => stC h26 ((⟨b, 0, none⟩ : Addr).add 2) (.bool z) fun h27 =>
      (∃ (x28 : Int), cell h27 ⟨b, 0, none⟩ = some (.int .u64 x28) ∧ ∃ (x29 : Int), cell h27 ((⟨b, 0, none⟩ : Addr).add 1) = some (.int .i64 x29) ∧ ∃ (x30 : Bool), cell h27 ((⟨b, 0, none⟩ : Addr).add 2) = some (.bool x30) ∧ K x28 x29 x30 h27) := by
  simp only [add_mk, Nat.zero_add]
  refine stC_row r (by simp) ?_
  have r1 := r.set 0 (.int .u64 x)
  refine stC_row r1 (by simp) ?_
  have r2 := r1.set 1 (.int .i64 y)
  refine stC_row r2 (by simp) ?_
  have r3 := r2.set 2 (.bool z)
  exact ⟨x, by rw [r3.cell]; rfl, y, by rw [r3.cell]; rfl, z, by rw [r3.cell]; rfl, hk _ (((e.setC hb _).setC hb _).setC hb _)⟩

theorem F24_l0 {K3 : Int → Int → Heap → Prop} {c2 : Addr} {h : Heap} : ∀ (k m : Nat) (e : Int), m ≠ 0 → m < 18446744073709551616 → tz m = k → -10000 ≤ e → e + (k : Nat) < 10000 → K3 (e + (k : Nat)) ((m / 2 ^ k : Nat) : Int) h → F24.l0 K3 (k + 1) c2 e (m : Int) h
  | 0, m, e, h0, hm, ht, g1, g2, hk => by
    have odd : m % 2 = 1 := by
      rcases Nat.mod_two_eq_zero_or_one m with e | e
      · rw [tz_even h0 e] at ht; omega
      · exact e
    unfold F24.l0 F24.b0
    rw [tmod2, iteB_decide, if_neg (by omega)]
    exact ⟨by decide, by simpa using hk⟩
  | k + 1, m, e, h0, hm, ht, g1, g2, hk => by
    have even : m % 2 = 0 := by
      rcases Nat.mod_two_eq_zero_or_one m with e | e
      · exact e
      · rw [tz_odd e] at ht; omega
    have ht' : tz (m / 2) = k := by rw [tz_even h0 even] at ht; omega
    unfold F24.l0 F24.b0
    rw [tmod2, iteB_decide, if_pos even, tdiv2, wrap_nat (by omega), wrap_id (by omega) (by omega)]
    refine ⟨by decide, by decide, F24_l0 k (m / 2) (e + 1) (by omega) (by omega) ht' (by omega) (by omega) ?_⟩
    rw [Nat.div_div_eq_div_mul, Nat.mul_comm, ← Nat.pow_succ, show e + 1 + (k : Nat) = e + ((k + 1 : Nat) : Int) by omega]; exact hk

theorem F24_of {b : Nat} {h : Heap} {K : Int → Int → Bool → Heap → Prop} (hb : b < 18446744073709551616) (hk : ∀ h', Ext h h' → K (partsR b).1 (partsR b).2.1 (partsR b).2.2 h') : F24 (b : Int) h K := by
  have hx : b / 4503599627370496 % 2048 = ex b := rfl
  have hfr : fr b < 4503599627370496 := by unfold fr; omega
  have hex : ex b < 2048 := by unfold ex; omega
  unfold F24
  rw [fdiv_nat, show (2 : Nat) ^ 52 = 4503599627370496 by decide, and_2047 _ (by omega), hx, and_low b hb]
  refine newP_intro fun a h3 ha hs e3 r3 => ?_
  subst ha
  refine ⟨by decide, ?_⟩
  have hj : ∀ (m : Nat) (e : Int), m ≠ 0 → m < 9007199254740992 → 0 ≤ e → e < 3000 → (∀ h', Ext h h' → K ((m / 2 ^ tz m : Nat) : Int) (e - 1075 + (tz m : Nat)) true h') →
      (∃ m24, F24.l0 (fun z21 z22 h23 => ((stC h23 ⟨h.size, 0, none⟩ (.int .u64 z22) fun h25 => stC h25 ((⟨h.size, 0, none⟩ : Addr).add 1) (.int .i64 z21) fun h26 => stC h26 ((⟨h.size, 0, none⟩ : Addr).add 2) (.bool true) fun h27 => (∃ (x28 : Int), cell h27 ⟨h.size, 0, none⟩ = some (.int .u64 x28) ∧ ∃ (x29 : Int), cell h27 ((⟨h.size, 0, none⟩ : Addr).add 1) = some (.int .i64 x29) ∧ ∃ (x30 : Bool), cell h27 ((⟨h.size, 0, none⟩ : Addr).add 2) = some (.bool x30) ∧ K x28 x29 x30 h27)))) m24 ⟨h.size, 0, none⟩ (IntKind.i64.wrap (e - 1075)) (m : Int) h3) := by
    intro m e h0 hm g1 g2 hk
    have t64 : tz m < 64 := tz_lt h0 (Nat.lt_trans hm (by decide))
    refine ⟨tz m + 1, ?_⟩
    rw [wrap_id (by omega) (by omega)]
    exact F24_l0 (tz m) m (e - 1075) h0 (by omega) rfl (by omega) (by omega) (res3 r3 e3 (Nat.le_refl _) hk)
  intro j31
  have hj31 : ∀ (m : Nat) (e : Int), m ≠ 0 → m < 9007199254740992 → 0 ≤ e → e < 3000 → (∀ h', Ext h h' → K ((m / 2 ^ tz m : Nat) : Int) (e - 1075 + (tz m : Nat)) true h') → j31 e (m : Int) := hj
  clear_value j31
  refine qcallP1.of (kindI b) (fun R hR => F23_of hb hR) ?_
  have e1 : IntKind.i64.wrap (ex b : Int) = (ex b : Int) := wrap_id (by omega) (by omega)
  have e2 : IntKind.u64.wrap ((fr b : Int) + 4503599627370496) = ((fr b + 4503599627370496 : Nat) : Int) := by rw [wrap_u64]; omega
  rw [e1, e2]
  unfold partsR at hk
  by_cases c1 : ex b = 2047
  · rw [if_pos c1] at hk
    rcases kind_01 c1 with e | e <;> rw [e] <;> exact res3 r3 e3 (Nat.le_refl _) hk
  · rw [if_neg c1] at hk
    by_cases c2 : magR b = 0
    · rw [if_pos c2] at hk; rw [kind_2 c1 c2]; exact res3 r3 e3 (Nat.le_refl _) hk
    · rw [if_neg c2] at hk
      rcases kind_34 c1 c2 with ⟨e, e0⟩ | ⟨e, e0⟩
      · rw [e]
        unfold magR expR at hk; rw [if_pos e0, if_pos e0] at hk
        unfold magR at c2; rw [if_pos e0] at c2
        exact hj31 _ _ c2 (by omega) (by decide) (by decide) hk
      · rw [e]
        unfold magR expR at hk; rw [if_neg e0, if_neg e0] at hk
        exact hj31 _ _ (by omega) (by omega) (by omega) (by omega) hk

attribute [local irreducible] Go.Hp.iteB

theorem res2 {h0 h : Heap} {b : Nat} {v0 v1 : Value} {x : Int} {z : Bool} {K : Int → Bool → Heap → Prop} (r : row h b [v0, v1]) (e : Ext h0 h) (hb : h0.size ≤ b) (hk : ∀ h', Ext h0 h' → K x z h') :
    stC h ⟨b, 0, none⟩ (.int .u64 x) fun h25 => stC h25 ((⟨b, 0, none⟩ : Addr).add 1) (.bool z) fun h27 =>
      (∃ (x28 : Int), cell h27 ⟨b, 0, none⟩ = some (.int .u64 x28) ∧ ∃ (x30 : Bool), cell h27 ((⟨b, 0, none⟩ : Addr).add 1) = some (.bool x30) ∧ K x28 x30 h27) := by
  simp only [add_mk, Nat.zero_add]
  refine stC_row r (by simp) ?_
  have r1 := r.set 0 (.int .u64 x)
  refine stC_row r1 (by simp) ?_
  have r2 := r1.set 1 (.bool z)
  exact ⟨x, by rw [r2.cell]; rfl, z, by rw [r2.cell]; rfl, hk _ ((e.setC hb _).setC hb _)⟩

theorem F26_l0 {K2 : Int → Int → Heap → Prop} {c6 : Addr} {c7 : Int} {h : Heap} : ∀ (k m : Nat) (e : Int), m ≠ 0 → m < 18446744073709551616 → tz m = k → -10000 ≤ e → e + (k : Nat) < 10000 → K2 ((m / 2 ^ k : Nat) : Int) (e + (k : Nat)) h → F26.l0 K2 (k + 1) (m : Int) e c6 c7 h
  | 0, m, e, h0, hm, ht, g1, g2, hk => by
    have odd : m % 2 = 1 := by
      rcases Nat.mod_two_eq_zero_or_one m with e | e
      · rw [tz_even h0 e] at ht; omega
      · exact e
    unfold F26.l0 F26.b0
    rw [tmod2, iteB_decide, if_neg (by omega)]
    exact ⟨by decide, by simpa using hk⟩
  | k + 1, m, e, h0, hm, ht, g1, g2, hk => by
    have even : m % 2 = 0 := by
      rcases Nat.mod_two_eq_zero_or_one m with e | e
      · exact e
      · rw [tz_odd e] at ht; omega
    have ht' : tz (m / 2) = k := by rw [tz_even h0 even] at ht; omega
    unfold F26.l0 F26.b0
    rw [tmod2, iteB_decide, if_pos even, tdiv2, wrap_nat (by omega), wrap_id (by omega) (by omega)]
    refine ⟨by decide, by decide, F26_l0 k (m / 2) (e + 1) (by omega) (by omega) ht' (by omega) (by omega) ?_⟩
    rw [Nat.div_div_eq_div_mul, Nat.mul_comm, ← Nat.pow_succ, show e + 1 + (k : Nat) = e + ((k + 1 : Nat) : Int) by omega]; exact hk

theorem F26_l1 {K4 : Int → Int → Heap → Prop} {c6 : Addr} {c7 : Int} {h : Heap} : ∀ (r o : Nat) (e : Int), o ≠ 0 → o < 9007199254740992 → -1074 ≤ e → e < 10000 → r = min (53 - len o) (e + 1074).toNat → K4 ((o * 2 ^ r : Nat) : Int) (e - (r : Nat)) h → F26.l1 K4 (r + 1) (o : Int) e c6 c7 h
  | 0, o, e, h0, hm, g1, g2, hr, hk => by
    have hl := @len_le o 52
    have hl' := @len_le o 53
    unfold F26.l1 F26.b1
    rw [show ((o * 2 ^ 0 : Nat) : Int) = (o : Int) by simp, show e - ((0 : Nat) : Int) = e by omega] at hk
    refine iteB_intro (fun c => ?_) (fun c => hk)
    have c := of_decide_eq_true c
    refine iteB_neg (decide_eq_false ?_) hk
    have : len o ≤ 52 := hl.2 (by omega)
    omega
  | r + 1, o, e, h0, hm, g1, g2, hr, hk => by
    have hl := @len_le o 52
    have h2 := len_mul 1 h0
    rw [Nat.pow_one] at h2
    unfold F26.l1 F26.b1
    have : o < 2 ^ 52 := hl.1 (by omega)
    refine iteB_pos (decide_eq_true (by omega)) (iteB_pos (decide_eq_true (by omega)) ?_)
    rw [show (o : Int) * 2 = ((o * 2 : Nat) : Int) by omega, wrap_nat (by omega), wrap_id (by omega) (by omega)]
    refine F26_l1 r (o * 2) (e - 1) (by omega) (by omega) (by omega) (by omega) (by omega) ?_
    rw [Nat.mul_assoc, Nat.mul_comm 2, ← Nat.pow_succ, show e - 1 - (r : Nat) = e - ((r + 1 : Nat) : Int) by omega]; exact hk

theorem F26_tail {s M : Nat} {e : Int} {h0 h : Heap} {b : Nat} {v0 v1 : Value} {K : Int → Bool → Heap → Prop} (r : row h b [v0, v1]) (ex : Ext h0 h) (hb : h0.size ≤ b) (hs : s = 0 ∨ s = 9223372036854775808) (hM : M < 2 ^ 53) (he : -1074 ≤ e) (he' : e < 10000)
    (h1 : M < 4503599627370496 → ∀ h', Ext h0 h' → K ((s + M : Nat) : Int) true h') (h2 : 4503599627370496 ≤ M → 2046 < e + 1075 → ∀ h', Ext h0 h' → K 0 false h')
    (h3 : 4503599627370496 ≤ M → e + 1075 ≤ 2046 → ∀ h', Ext h0 h' → K ((s + (e + 1075).toNat * 4503599627370496 + M % 4503599627370496 : Nat) : Int) true h') :
    iteB (decide ((M : Int) < (4503599627370496 : Int))) (stC h ⟨b, 0, none⟩ (.int .u64 (IntKind.u64.wrap ((s : Int) + (M : Int)))) fun h45 => stC h45 ((⟨b, 0, none⟩ : Addr).add 1) (.bool true) fun h46 => (∃ (x47 : Int), cell h46 ⟨b, 0, none⟩ = some (.int .u64 x47) ∧ ∃ (x48 : Bool), cell h46 ((⟨b, 0, none⟩ : Addr).add 1) = some (.bool x48) ∧ K x47 x48 h46))
      (iteB (decide ((IntKind.i64.wrap (e + 1075)) > (2046 : Int))) (stC h ⟨b, 0, none⟩ (.int .u64 0) fun h49 => stC h49 ((⟨b, 0, none⟩ : Addr).add 1) (.bool false) fun h50 => (∃ (x51 : Int), cell h50 ⟨b, 0, none⟩ = some (.int .u64 x51) ∧ ∃ (x52 : Bool), cell h50 ((⟨b, 0, none⟩ : Addr).add 1) = some (.bool x52) ∧ K x51 x52 h50))
        (0 ≤ (52 : Int) ∧ stC h ⟨b, 0, none⟩ (.int .u64 (IntKind.u64.wrap ((IntKind.u64.wrap ((s : Int) + (IntKind.u64.wrap ((IntKind.u64.wrap (IntKind.i64.wrap (e + 1075))) * 2 ^ 52)))) + (IntKind.u64.wrap ((M : Int) - 4503599627370496))))) fun h53 => stC h53 ((⟨b, 0, none⟩ : Addr).add 1) (.bool true) fun h54 => (∃ (x55 : Int), cell h54 ⟨b, 0, none⟩ = some (.int .u64 x55) ∧ ∃ (x56 : Bool), cell h54 ((⟨b, 0, none⟩ : Addr).add 1) = some (.bool x56) ∧ K x55 x56 h54))) := by
  have hs3 : s ≤ 9223372036854775808 := by omega
  refine iteB_intro (fun c => ?_) (fun c => ?_)
  · have c := of_decide_eq_true c
    rw [show (s : Int) + (M : Int) = ((s + M : Nat) : Int) by omega, wrap_nat (by omega)]
    exact res2 r ex hb (h1 (by omega))
  · have c := of_decide_eq_false c
    obtain ⟨E, hE⟩ : ∃ E : Nat, e + 1075 = (E : Int) := ⟨(e + 1075).toNat, by omega⟩
    rw [hE] at h2 h3
    rw [hE, wrap_id (x := (E : Int)) (by omega) (by omega)]
    refine iteB_intro (fun c => ?_) (fun c => ?_)
    · exact res2 r ex hb (h2 (by omega) (by have := of_decide_eq_true c; omega))
    · have c := of_decide_eq_false c
      have h3 := h3 (by omega) (by omega)
      rw [Int.toNat_natCast] at h3
      refine ⟨by decide, ?_⟩
      have e1 : IntKind.u64.wrap ((IntKind.u64.wrap ((s : Int) + (IntKind.u64.wrap ((IntKind.u64.wrap (E : Int)) * 2 ^ 52)))) + (IntKind.u64.wrap ((M : Int) - 4503599627370496))) = ((s + E * 4503599627370496 + M % 4503599627370496 : Nat) : Int) := by
        rw [wrap_nat (m := E) (by omega), show (E : Int) * 2 ^ 52 = ((E * 4503599627370496 : Nat) : Int) by simp, wrap_nat (by omega), wrap_u64, wrap_u64, wrap_u64]; omega
      rw [e1]
      exact res2 r ex hb h3

theorem F26_of {neg : Bool} {m : Nat} {e : Int} {h : Heap} {K : Int → Bool → Heap → Prop} (hm : m < 18446744073709551616) (hk : ∀ h', Ext h h' → K ((makeR neg m e).1 : Nat) (makeR neg m e).2 h') : F26 neg (m : Int) e h K := by
  unfold F26
  refine newP_intro fun a h3 ha hs3 e3 r3 => ?_
  subst ha
  intro j59
  have hj : ∀ s : Nat, s = 0 ∨ s = 9223372036854775808 → (∀ h', Ext h h' → K ((makeS s m e).1 : Nat) (makeS s m e).2 h') → j59 (s : Int) := by
    intro s hs hk
    simp only [j59]
    clear j59
    unfold makeS at hk
    by_cases h0 : m = 0
    · rw [if_pos h0] at hk
      refine iteB_pos (by simp [h0]) ?_
      exact res2 r3 e3 (Nat.le_refl _) hk
    · rw [if_neg h0] at hk
      refine iteB_neg (by simp [h0]) ?_
      have t64 : tz m < 64 := tz_lt h0 hm
      have ho : m / 2 ^ tz m ≠ 0 := by have := (tz_spec m h0).1; intro e; rw [e] at this; omega
      have hol : m / 2 ^ tz m < 18446744073709551616 := Nat.lt_of_le_of_lt (Nat.div_le_self _ _) hm
      have hn : len (m / 2 ^ tz m) ≤ 64 := len_le.2 hol
      have hn1 : 0 < len (m / 2 ^ tz m) := by unfold len; rw [if_neg ho]; omega
      have hno : (e < -2000 ∨ 2000 < e ∨ 53 < len (m / 2 ^ tz m) ∨ e + tz m < -1074 ∨ 1024 < e + tz m + len (m / 2 ^ tz m)) → ∀ h', Ext h h' → K 0 false h' := by
        intro hc; simp only [] at hk; rw [if_pos hc] at hk; exact hk
      refine iteB_intro (fun c => ?_) (fun c => ?_)
      · exact res2 r3 e3 (Nat.le_refl _) (hno (.inl (by have := of_decide_eq_true c; omega)))
      have c1 := of_decide_eq_false c
      refine iteB_intro (fun c => ?_) (fun c => ?_)
      · exact res2 r3 e3 (Nat.le_refl _) (hno (.inr (.inl (by have := of_decide_eq_true c; omega))))
      have c2 := of_decide_eq_false c
      refine ⟨tz m + 1, F26_l0 (tz m) m e h0 hm rfl (by omega) (by omega) ?_⟩
      simp only [] at hk
      generalize m / 2 ^ tz m = o at *
      generalize tz m = k at *
      have hlm := fun r => len_mul r ho
      have hl53 := @len_le o 53
      refine iteB_intro (fun c => ?_) (fun c => ?_)
      · refine res2 r3 e3 (Nat.le_refl _) (hno (.inr (.inr (.inl ?_))))
        have := of_decide_eq_true c; omega
      have c3 := of_decide_eq_false c
      have c3' : len o ≤ 53 := hl53.2 (by omega)
      refine iteB_intro (fun c => ?_) (fun c => ?_)
      · exact res2 r3 e3 (Nat.le_refl _) (hno (.inr (.inr (.inr (.inl (by have := of_decide_eq_true c; omega))))))
      have c4 := of_decide_eq_false c
      refine ⟨_, F26_l1 (min (53 - len o) (e + k + 1074).toNat) o (e + k) ho (by omega) (by omega) (by omega) rfl ?_⟩
      have hr : min (53 - len o) (e + k + 1074).toNat ≤ 53 - len o := Nat.min_le_left _ _
      have hr2 : ((min (53 - len o) (e + k + 1074).toNat : Nat) : Int) ≤ e + k + 1074 := by omega
      have hr3 : min (53 - len o) (e + k + 1074).toNat = 53 - len o ∨ ((min (53 - len o) (e + k + 1074).toNat : Nat) : Int) = e + k + 1074 := by omega
      generalize min (53 - len o) (e + k + 1074).toNat = r at *
      have hM : o * 2 ^ r < 2 ^ 53 := len_le.1 (by rw [hlm]; omega)
      have hMl : o * 2 ^ r < 4503599627370496 ↔ len o + r ≤ 52 := by rw [← hlm]; exact (len_le (k := 52)).symm
      refine F26_tail r3 e3 (Nat.le_refl _) hs hM (by omega) (by omega) (fun c => ?_) (fun c d => hno ?_) (fun c d => ?_)
      · have c7 := hMl.1 c
        rw [if_neg (by omega), if_pos c] at hk; exact hk
      · have c7 : ¬ (len o + r ≤ 52) := fun x => absurd (hMl.2 x) (Nat.not_lt.2 c)
        omega
      · have c7 : ¬ (len o + r ≤ 52) := fun x => absurd (hMl.2 x) (Nat.not_lt.2 c)
        rw [if_neg (by omega), if_neg (Nat.not_lt.2 c)] at hk; exact hk
  clear_value j59
  unfold makeR sgn at hk
  cases neg with
  | true => rw [iteB_true]; exact hj 9223372036854775808 (.inr rfl) hk
  | false => rw [iteB_false]; exact hj 0 (.inl rfl) hk
end Go.Proofs.Ytnmeoeakepcieaa
